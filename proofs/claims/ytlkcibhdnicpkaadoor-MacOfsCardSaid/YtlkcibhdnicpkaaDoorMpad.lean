/- A key as a block, by the program: the walk of mac.pad. -/
import Derived.Test.YtlkcibhdnicpkaaDoorMmath
import Derived.Test.YtlkcibhdnicpkaaDoorProg
import Derived.Test.YtlkcibhdnicpkaaDoorSh
import Derived.Laws.CopyOwn
import Derived.Laws.MakeOwn
namespace Go.Proofs.YtlkcibhdnicpkaaDoor
namespace Mc
open Go.RowKit Ba Sm
set_option linter.unusedVariables false
theorem ofInt_u8 (a : UInt8) : (BitVec.ofInt 8 (a.toNat : Int)).toNat = a.toNat := by
  rw [BitVec.toNat_ofInt]
  have := a.toNat_lt
  omega
theorem x8 (a b : UInt8) : bits .xor .u8 (a.toNat : Int) (b.toNat : Int) = ((a ^^^ b).toNat : Int) := by
  have h := (a ^^^ b).toNat_lt
  show IntKind.u8.wrap ((BitVec.ofInt 8 (a.toNat : Int) ^^^ BitVec.ofInt 8 (b.toNat : Int)).toNat : Int) = _
  rw [BitVec.toNat_xor, ofInt_u8, ofInt_u8, IntKind.wrap_u8, ← UInt8.toNat_xor]
  omega
theorem run_mk64 (i0 : TypeInfo) (hi : IsByte Tryd.prog 5 i0) (w : World) : (Instr.makeSlice 22 (.int .i64 64) (.int .i64 64)).run Tryd.prog w = .ok (.slice (some ⟨w.heap.size, 0, none⟩) 64 64) (w.alloc (.cells (bvs (List.replicate 64 0)).toArray 5)) := by
  have h := run_make (P := Tryd.prog) w 22 5 i0 (.int .u8 0) Tryd.underlying22 hi.1 hi.2.1 .i64 .i64 64 64 (by omega) (by omega) (by rw [hi.2.2.2]; omega) (by omega)
  rw [hi.2.2.1] at h
  have e : madeCells (Value.int .u8 0).cells (Int.toNat 64 * 1) = (bvs (List.replicate 64 0)).toArray := by kernel_rfl
  rw [e] at h
  exact h
theorem bvs_rep (n : Nat) : bvs (List.replicate n 0) = List.replicate n (.int .u8 0) := by simp [bvs, bv]
theorem run_copy_pre {P : Program} (w : World) (T e : TypeId) (hu : P.underlying T = some (.slice e)) (hs : (P.info? e).map (·.size) = some 1) (ty : TypeId) (g n : Nat) (z : List Value) (hz : z.length = n) (t : TypeId) (hb : Blk w g t z.toArray)
    (k : List UInt8) (A : Option Addr) (c B : Nat) (hk : k.length ≤ n) (hr : ReadB w B A k) :
    ∃ w', (Builtin.copy_ #[T, T] ty #[.slice (some ⟨g, 0, none⟩) n n, .slice A k.length c]).run P w = .ok (goInt k.length) w' ∧ Blk w' g t (bvs k ++ z.drop k.length).toArray ∧ w.grownBy w' (some g) := by
  by_cases h0 : k.length = 0
  · have hk0 : k = [] := List.eq_nil_of_length_eq_zero h0
    subst hk0
    refine ⟨w, run_copy_none w T T ty e _ _ n n 0 c hu hs (by simp), by simpa [bvs] using hb, ⟨rfl, rfl, rfl, Nat.le_refl _, fun _ _ _ => rfl⟩⟩
  · obtain ⟨b, o, rfl, _, hcell⟩ := hr (by omega)
    refine ⟨w.setRow g (z.toArray.toList.take 0 ++ bvs k ++ z.toArray.toList.drop (0 + k.length)).toArray, ?_, ?_, ?_⟩
    · have h := run_copy_row (P := P) w T T ty e g 0 n n ⟨b, o, none⟩ k.length c z.toArray t (bvs k) hu hs hb (by rw [bvs_length]; exact (Nat.min_eq_left hk).symm) ?_ (by simp [bvs_length]; omega) (bvs_one k)
      · rw [bvs_length] at h
        exact h
      · intro j v hj
        have hjl : j < k.length := by have := (List.getElem?_eq_some_iff.1 hj).1; rwa [bvs_length] at this
        rw [bvs_get k j hjl] at hj
        injection hj with hj
        subst hj
        rw [add_lit_]
        exact hcell j hjl
    · have h := setRow_heap w g z.toArray (z.toArray.toList.take 0 ++ bvs k ++ z.toArray.toList.drop (0 + k.length)).toArray t (0, 0) hb
      simp only [List.take_zero, List.nil_append, Nat.zero_add] at h ⊢
      exact h
    · exact ⟨rfl, rfl, rfl, by simp [World.setRow], fun i hi hne => setRow_other w g i _ (fun e => hne (by rw [e]))⟩
set_option maxRecDepth 100000 in
set_option maxHeartbeats 2000000 in
theorem pad_calls (k : List UInt8) (A : Option Addr) (c : Nat) (hk : k.length ≤ 64) (x : UInt8) (w : World) (hr : ReadB w w.heap.size A k) :
    Calls Tryd.prog 50 #[.slice A k.length c, .int .u8 (x.toNat : Int)] w fun e w' => ∃ g, e = .returned (.slice (some ⟨g, 0, none⟩) 64 64) ∧ w.heap.size ≤ g ∧ Blk w' g 5 (bvs (mpad k x)).toArray ∧ Below w.heap.size w w' := by
  obtain ⟨i0, hi0⟩ := isByte_of info5
  have hmk := run_mk64 i0 hi0 w
  obtain ⟨w2, hcp, hB2, hg2⟩ := run_copy_pre (P := Tryd.prog) (w.alloc (.cells (bvs (List.replicate 64 0)).toArray 5)) 22 5 Tryd.underlying22 (by kernel_rfl) 3 w.heap.size 64 (bvs (List.replicate 64 0)) (by rfl) 5 (heap_alloc_new _ _) k A c w.heap.size hk (hr.alloc (Nat.le_refl _) _)
  have e0 : bvs k ++ (bvs (List.replicate 64 0)).drop k.length = bvs (mpt k x 0) := by
    rw [mpt_zero k x hk, bvs_append]
    congr 1
    rw [bvs_rep, bvs_rep, List.drop_replicate]
  rw [e0] at hB2
  have hb2 : Below w.heap.size w w2 := only_after ((Below.refl _ _).alloc (Nat.le_refl _) _) hg2 (Nat.le_refl _)
  have HB := Lib.hid hB2
  have Hb := Lib.hid hb2
  have Hk := Lib.hid hk
  obtain ⟨z, hz⟩ : ∃ z, z = (bvs (List.replicate 64 0)).toArray := ⟨_, rfl⟩
  rw [← hz] at hmk hcp
  clear hr hi0 hz hB2 hb2 hg2 e0 hk
  go_enter Tryd.func50, Tryd.ntmps50
  go_wp2_with fail
  go_loopg [13] 64 (fun n v wr => ∃ i : Nat, i ≤ 64 ∧ n = 64 - i ∧ v = .int .i64 i ∧ Blk wr w.heap.size 5 (bvs (mpt k x i)).toArray ∧ Below w.heap.size w wr)
  case atStart => exact ⟨0, by omega, rfl, rfl, HB.out, Hb.out⟩
  case round =>
    obtain ⟨i, hi64, hn, rfl, hB, hb⟩ := hrel
    have HX := Lib.hid hB
    have Hbw := Lib.hid hb
    have Hn := Lib.hid hn
    clear hn hb hB HB Hb
    by_cases hil : i < 64
    · have hcell := Blk.cell HX.out i
      rw [List.getElem?_toArray, bvs_get _ _ (by rw [mpt_len]; omega), mpt_at k x i i hil, if_neg (by omega)] at hcell
      have hfz := Blk.frozen HX.out i
      have hx := x8 (k.getD i 0) x
      obtain ⟨a, ha⟩ : ∃ a, a = k.getD i 0 := ⟨_, rfl⟩
      obtain ⟨v, hv⟩ : ∃ v, v = k.getD i 0 ^^^ x := ⟨_, rfl⟩
      rw [← hv, ← ha] at hx
      rw [← ha] at hcell
      have Hv := Lib.hid hv
      clear ha hv
      go_wp2_with fail
      go_roundg (64 - (i + 1))
      case rel =>
        refine ⟨i + 1, by omega, rfl, by simp, ?_, Hbw.out.setCell (by simp) _⟩
        have := Blk.set_ HX.out i (.int .u8 (v.toNat : Int))
        rw [toArray_set] at this
        have e : (bvs (mpt k x i)).set i (.int .u8 (v.toNat : Int)) = bvs (mpt k x (i + 1)) := by
          rw [← mpt_step k x i hil, ← Hv.out]
          simp [bvs, List.map_set, bv]
        rw [e] at this
        exact this
      all_goals (have := Hn.out; omega)
    · have hX := HX.out
      rw [show i = 64 by omega, mpt_end] at hX
      have HX2 := Lib.hid hX
      clear hX
      go_wp2_with fail
      go_ret
      exact ⟨_, rfl, Nat.le_refl _, HX2.out, Hbw.out⟩
end Mc
end Go.Proofs.YtlkcibhdnicpkaaDoor

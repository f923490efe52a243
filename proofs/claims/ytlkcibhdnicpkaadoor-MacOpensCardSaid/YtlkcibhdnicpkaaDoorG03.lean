/- What is written to a hasher, out of any bytes: also out of such as lie in blocks behind the hasher's. -/
import Derived.Test.YtlkcibhdnicpkaaDoorG01
import Derived.Test.YtlkcibhdnicpkaaDoorG02
import Derived.Test.YtlkcibhdnicpkaaDoorProg
import Derived.Laws.CopyOwn
import Derived.Laws.MakeOwn
import Derived.Deep.RegionHeld3
import Derived.Below
namespace Go.Proofs.YtlkcibhdnicpkaaDoor
namespace Sm
open Go.RowKit Ba
set_option linter.unusedVariables false
set_option maxRecDepth 100000 in
set_option maxHeartbeats 1000000 in
theorem writeX_calls (w : World) (g : Nat) (l b : List UInt8) (A : Option Addr) (c : Nat) (h : IsH w g l) (hg : 0 < g) (htab : Tab w) (hr : ReadB (w.setCell ⟨g, 9, none⟩ (.int .i64 ((l.length : Int) + (b.length : Int)))) w.heap.size A b) (hbc : b.length ≤ c) (hcm : c ≤ 9223372036854775807) (hbl : b.length ≤ 140737488351232) (hsum : l.length + b.length ≤ 4611686018427387904) :
    Calls Tryd.prog 17 #[.pointer (some ⟨g, 0, none⟩), .slice A b.length c] w fun e w' => e = .returned (.tuple #[]) ∧ IsGL w' g (st (l ++ b)) (rs (l ++ b)) (l ++ b).length w.heap.size ∧ w.grownBy w' (some g) := by
  obtain ⟨i0, hi0⟩ := isByte_of info5
  have Hi := Lib.hid hi0
  obtain ⟨A0, c0, h1, h2, h3, h4, h5⟩ := h
  have hc9 := cell9 h1 h2
  have hf9 := Blk.frozen h1 9
  have hrl := rs_len l
  have Hr' := Lib.hid hr
  have Hrl := Lib.hid hrl
  have H1 := Lib.hid h1
  have H2 := Lib.hid h2
  have H5 := Lib.hid h5
  have Htab := Lib.hid htab
  have hgl := h1.lt
  have Hgl := Lib.hid hgl
  have hg1 := only_set w g 9 (.int .i64 ((l.length : Int) + (b.length : Int)))
  have h1' := set9 h1 h2 (.int .i64 ((l.length : Int) + (b.length : Int)))
  have H1' := Lib.hid h1'
  have Hg1 := Lib.hid hg1
  have H5' := Lib.hid (h5.grown hg1 h1 (by decide))
  have hc8 := cell8 h1' h2
  have hlen : (rs l).length ≤ 63 := by omega
  clear hr hrl h1 h2 h5 htab hgl hi0 h1' hg1
  go_enter Tryd.func17, Tryd.ntmps17
  go_wp2_with fail
  refine (clone_calls (rs l) A0 c0 h3 (by omega) _ H5'.out.readB).mono ?_
  rintro e w2 ⟨v2, rfl, ho2, hb2⟩
  have hW1s : (w.setCell ⟨g, 9, none⟩ (.int .i64 ((l.length : Int) + (b.length : Int)))).heap.size = w.heap.size := by simp
  rw [hW1s] at ho2 hb2
  have hb2' : Below w.heap.size (w.setCell ⟨g, 9, none⟩ (.int .i64 ((l.length : Int) + (b.length : Int)))) w2 := hb2
  have H2b := Lib.hid (H1'.out.below hb2' Hgl.out)
  have Hr2 := Lib.hid (Hr'.out.below hb2')
  have Hg2 := Lib.hid (only_trans Hg1.out (only_of_below (by rw [hW1s]; exact hb2') (some g)))
  have Ho2 := Lib.hid ho2
  have Hs2 := Lib.hid hb2.size
  rw [hW1s] at Hs2
  clear ho2 hb2 hb2' hW1s hc8 hc9 hf9 H1' Hr' Hg1 H5'
  go_wp2_with ((at_builtin; go_loud (refine wpList_appB _ rfl (.tmp 20) (.tmp 21) 22 rfl w.heap.size 5 i0 Tryd.underlying22 Hi.out v2 (rs l) rfl Ho2.out w.heap.size A _ c b rfl rfl Hr2.out (by omega) Hs2.out ?_); intro v3 w3 ho3 _ _ hb3; have hB3 := H2b.out.below hb3 Hgl.out; have hc8 := cell8 hB3 H2.out; have hf8 := Blk.frozen hB3 8; have HB3 := Lib.hid hB3; have Ho3 := Lib.hid ho3; obtain ⟨A3, c3, rfl, q1, q2, q3, q4⟩ := ho3.opens; have Hq3 := Lib.hid q3; have Hq4 := Lib.hid q4; have Hb3 := Lib.hid hb3; clear hB3 hb3 ho3 q3 q4))
  have q5 := ReadT.of_own Ho3.out
  have hB4 := set8 HB3.out H2.out (.slice A3 (rs l ++ b).length c3)
  have hg4 : w.grownBy (w3.setCell ⟨g, 8, none⟩ (.slice A3 (rs l ++ b).length c3)) (some g) := only_trans (only_below Hg2.out Hb3.out) (only_set _ _ _ _)
  have q6 := q5.grown (only_set w3 g 8 (.slice A3 (rs l ++ b).length c3)) HB3.out (by decide)
  obtain ⟨a, ha⟩ : ∃ a, a = l ++ b := ⟨_, rfl⟩
  have hal : (l.length : Int) + (b.length : Int) = (a.length : Int) := by rw [ha, List.length_append]; omega
  have hst0 : IsGL (w3.setCell ⟨g, 8, none⟩ (.slice A3 ((rs l).length + b.length) c3)) g (stk a (l.length / 64)) (a.drop (64 * (l.length / 64))) a.length w.heap.size := by
    rw [ha, ← rs_append, ← st_append]
    rw [hal, ha] at hB4
    rw [← List.length_append]
    exact ⟨A3, c3, hB4, H2.out, q1, q2, q6, fun ad had => (Hq4.out ad had).1⟩
  have hle0 : 64 * (l.length / 64) ≤ a.length := by rw [ha, List.length_append]; omega
  rw [List.length_append] at hg4
  have Ha := Lib.hid ha
  have Hst0 := Lib.hid hst0
  have Hg4 := Lib.hid hg4
  clear hal hst0 hg4 q6 hB4 q5 q1 q2 Hq3 Hq4 Hb3 Ho3 HB3 hc8 hf8 Ho2 Hr2 H2b Hg2 Hs2 ha H5 H1 H2
  go_loopg [] (a.length - 64 * (l.length / 64)) (fun n wr => ∃ j : Nat, 64 * j ≤ a.length ∧ n = a.length - 64 * j ∧ IsGL wr g (stk a j) (a.drop (64 * j)) a.length w.heap.size ∧ w.grownBy wr (some g))
  case atStart => exact ⟨_, hle0, rfl, Hst0.out, Hg4.out⟩
  case round =>
    obtain ⟨j, hj, hgk, ⟨A5, c5, hB, hs, hrc, hcc, hT, hlo⟩, hgw⟩ := hrel
    have Hlo := Lib.hid hlo
    clear hlo
    have hc8 := cell8 hB hs
    obtain ⟨r, hr⟩ : ∃ r, r = a.drop (64 * j) := ⟨_, rfl⟩
    rw [← hr] at hB hrc hT hc8
    have hrlen : r.length = a.length - 64 * j := by rw [hr, List.length_drop]
    have HB := Lib.hid hB
    have Hs := Lib.hid hs
    have HT := Lib.hid hT
    have Hgw := Lib.hid hgw
    have Hgk := Lib.hid hgk
    have Hrr := Lib.hid hr
    have Hrlen := Lib.hid hrlen
    have hrm : r.length ≤ 9223372036854775807 := Nat.le_trans hrc hcc
    clear hB hs hT hgw hgk hr hrlen
    by_cases h64 : 64 ≤ r.length
    · obtain ⟨b5, o5, cs5, rfl, hb5, hc5⟩ := HT.out (by omega)
      have hwk : Calls Tryd.prog 44 #[.pointer (some ⟨g, 0, none⟩), .slice (some ⟨b5, o5, none⟩) 64 c5] wr.drew
          fun e w' => e = .returned (.tuple #[]) ∧ Blk w' g 71 (wvs (stk a (j + 1)) ++ [Value.slice (some ⟨b5, o5, none⟩) r.length c5, Value.int .i64 (a.length : Int)]).toArray ∧ wr.grownBy w' (some g) := by
        have hr64 : ReadB wr.drew wr.drew.heap.size (some ⟨b5, o5, none⟩) (r.take 64) := HT.out.readB.take 64
        refine (work_calls (stk a j) Hs.out g 71 _ (r.take 64) (by rw [List.length_take]; omega) (some ⟨b5, o5, none⟩) c5 (by omega) hcc wr.drew hr64 HB.out hg (Htab.out.grown (grown_drew Hgw.out) hg)).mono ?_
        rintro e w' ⟨h1, h2, h3⟩
        refine ⟨h1, ?_, undrew h3⟩
        rw [Hrr.out] at h2
        rw [Hrr.out]
        exact h2
      have Hwk := Lib.hid hwk
      clear hwk hb5 hc5
      have i1 : (0 : Int) ≤ 64 := by omega
      have i2 : (64 : Int) ≤ (c5 : Int) := by omega
      go_wp2_with fail
      go_region_with (go_at_call 44; refine Hwk.out.mono ?_; rintro e w5 ⟨rfl, hB5, hg5⟩)
      have k8 := cell8 hB5 (stk_len a (j + 1))
      have kf := Blk.frozen hB5 8
      have hT5 := HT.out.grown hg5 HB.out (by decide)
      have hfin : ∀ A' c', A' = (if c5 = 64 then (some ⟨b5, o5, none⟩) else (some ⟨b5, o5 + 64, none⟩)) → c' = c5 - 64 →
          IsGL (w5.setCell ⟨g, 8, none⟩ (.slice A' (r.length - 64) c')) g (stk a (j + 1)) (a.drop (64 * (j + 1))) a.length w.heap.size ∧ w.grownBy (w5.setCell ⟨g, 8, none⟩ (.slice A' (r.length - 64) c')) (some g) := by
        intro A' c' hA hc'
        have hs6 := only_set w5 g 8 (.slice A' (r.length - 64) c')
        have hB6 := set8 hB5 (stk_len a (j + 1)) (.slice A' (r.length - 64) c')
        have hT6 : ReadT w5 5 A' (r.drop 64) := by
          subst hA
          by_cases hc : c5 = 64
          · have : r.drop 64 = [] := by rw [List.drop_eq_nil_iff]; omega
            rw [this]
            exact ReadT.nil
          · rw [if_neg hc]
            exact hT5.drop 64
        have e : a.drop (64 * (j + 1)) = r.drop 64 := by rw [Hrr.out, drop_drop64]
        rw [e]
        refine ⟨⟨A', c', ?_, stk_len _ _, by rw [List.length_drop]; omega, by omega, hT6.grown hs6 hB5 (by decide), fun ad had => ?_⟩, only_trans (only_trans Hgw.out hg5) hs6⟩
        · rw [List.length_drop]
          exact hB6
        · have h0 := Hlo.out ⟨b5, o5, none⟩ rfl
          subst hA
          by_cases hc : c5 = 64
          · rw [if_pos hc] at had; injection had with had; subst had; exact h0
          · rw [if_neg hc] at had; injection had with had; subst had; exact h0
      have Hfin := Lib.hid hfin
      clear hB5 hT5 hg5 hfin
      by_cases hc64 : c5 = 64
      all_goals
        go_wp2
        go_roundg (a.length - 64 * (j + 1))
        case rel =>
          have := Hrlen.out
          exact ⟨j + 1, by omega, rfl, Hfin.out _ _ (by simp [hc64]) (by omega)⟩
        case measure =>
          have := Hgk.out
          have := Hrlen.out
          omega
    · go_wp2
      have hjj : j = a.length / 64 := by have := Hrlen.out; omega
      refine bodyPost_end (results_none rfl _ _ _) rfl ⟨rfl, ?_, Hgw.out⟩
      rw [← Ha.out]
      unfold st rs
      rw [← hjj, ← Hrr.out]
      exact ⟨A5, c5, HB.out, Hs.out, hrc, hcc, HT.out, Hlo.out⟩
theorem writeT_calls (w : World) (g : Nat) (l b : List UInt8) (A : Option Addr) (c : Nat) (h : IsH w g l) (hg : 0 < g) (htab : Tab w) (hr : ReadT w 5 A b) (hbc : b.length ≤ c) (hcm : c ≤ 9223372036854775807) (hbl : b.length ≤ 140737488351232) (hsum : l.length + b.length ≤ 4611686018427387904) :
    Calls Tryd.prog 17 #[.pointer (some ⟨g, 0, none⟩), .slice A b.length c] w fun e w' => e = .returned (.tuple #[]) ∧ IsH w' g (l ++ b) ∧ w.grownBy w' (some g) := by
  refine (writeX_calls w g l b A c h hg htab ?_ hbc hcm hbl hsum).mono fun e w' ⟨h1, h2, h3⟩ => ⟨h1, h2.g, h3⟩
  obtain ⟨A0, c0, h1, _⟩ := h
  have := (hr.grown (only_set w g 9 (.int .i64 ((l.length : Int) + (b.length : Int)))) h1 (by decide)).readB
  simpa using this
end Sm
end Go.Proofs.YtlkcibhdnicpkaaDoor
/- Sums with a key, over lists: plain words. -/
namespace Go.Proofs.YtlkcibhdnicpkaaDoor
namespace Mc
open Sm
/-- the key of a block -/
def mkey (k : List UInt8) : List UInt8 := if 64 < k.length then sha k else k
/-- the key, with noughts, each byte exclusive-ored -/
def mpad (k : List UInt8) (x : UInt8) : List UInt8 := (List.range 64).map fun i => k.getD i 0 ^^^ x
/-- so far -/
def mpt (k : List UInt8) (x : UInt8) (i : Nat) : List UInt8 := (List.range 64).map fun j => if j < i then k.getD j 0 ^^^ x else k.getD j 0
def hmac (k b : List UInt8) : List UInt8 := sha (mpad (mkey k) 0x5c ++ sha (mpad (mkey k) 0x36 ++ b))
theorem mpad_len (k : List UInt8) (x : UInt8) : (mpad k x).length = 64 := by simp [mpad]
theorem mpt_len (k : List UInt8) (x : UInt8) (i : Nat) : (mpt k x i).length = 64 := by simp [mpt]
theorem mpt_end (k : List UInt8) (x : UInt8) : mpt k x 64 = mpad k x := by
  unfold mpt mpad
  apply List.map_congr_left
  intro j hj
  rw [if_pos (List.mem_range.1 hj)]
theorem mpt_at (k : List UInt8) (x : UInt8) (i j : Nat) (h : j < 64) : (mpt k x i).getD j 0 = if j < i then k.getD j 0 ^^^ x else k.getD j 0 := by
  simp [mpt, List.getD, h]
theorem mpt_zero (k : List UInt8) (x : UInt8) (h : k.length ≤ 64) : mpt k x 0 = k ++ List.replicate (64 - k.length) 0 := by
  apply List.ext_getElem
  · simp [mpt]; omega
  · intro j h1 h2
    have hj : j < 64 := by simpa [mpt] using h1
    simp only [mpt, List.getElem_map, List.getElem_range, Nat.not_lt_zero, if_false]
    by_cases hk : j < k.length
    · rw [List.getElem_append_left hk]; simp [List.getD, hk]
    · rw [List.getElem_append_right (by omega)]; simp [List.getD, List.getElem?_eq_none (by omega : k.length ≤ j)]
theorem mpt_step (k : List UInt8) (x : UInt8) (i : Nat) (h : i < 64) : (mpt k x i).set i (k.getD i 0 ^^^ x) = mpt k x (i + 1) := by
  apply List.ext_getElem
  · simp [mpt]
  · intro j h1 h2
    have hj : j < 64 := by simpa [mpt] using h2
    rw [List.getElem_set]
    simp only [mpt, List.getElem_map, List.getElem_range]
    by_cases e : i = j
    · subst e; rw [if_pos rfl, if_pos (by omega)]
    · rw [if_neg e]
      by_cases l : j < i
      · rw [if_pos l, if_pos (by omega)]
      · rw [if_neg l, if_neg (by omega)]
end Mc
end Go.Proofs.YtlkcibhdnicpkaaDoor
/- A key as a block, by the program: the walk of mac.pad. -/
namespace Go.Proofs.YtlkcibhdnicpkaaDoor
namespace Mc
open Go.RowKit Ba Sm
set_option linter.unusedVariables false
theorem ofInt_u8 (a : UInt8) : (BitVec.ofInt 8 (a.toNat : Int)).toNat = a.toNat := by
  rw [BitVec.toNat_ofInt]
  have := a.toNat_lt
  omega
theorem x8 (a b : UInt8) : bits .xor .u8 (a.toNat : Int) (b.toNat : Int) = ((a ^^^ b).toNat : Int) := by
  have h := (a ^^^ b).toNat_lt
  show IntKind.u8.wrap ((BitVec.ofInt 8 (a.toNat : Int) ^^^ BitVec.ofInt 8 (b.toNat : Int)).toNat : Int) = _
  rw [BitVec.toNat_xor, ofInt_u8, ofInt_u8, IntKind.wrap_u8, ← UInt8.toNat_xor]
  omega
theorem run_mk64 (i0 : TypeInfo) (hi : IsByte Tryd.prog 5 i0) (w : World) : (Instr.makeSlice 22 (.int .i64 64) (.int .i64 64)).run Tryd.prog w = .ok (.slice (some ⟨w.heap.size, 0, none⟩) 64 64) (w.alloc (.cells (bvs (List.replicate 64 0)).toArray 5)) := by
  have h := run_make (P := Tryd.prog) w 22 5 i0 (.int .u8 0) Tryd.underlying22 hi.1 hi.2.1 .i64 .i64 64 64 (by omega) (by omega) (by rw [hi.2.2.2]; omega) (by omega)
  rw [hi.2.2.1] at h
  have e : madeCells (Value.int .u8 0).cells (Int.toNat 64 * 1) = (bvs (List.replicate 64 0)).toArray := by kernel_rfl
  rw [e] at h
  exact h
theorem bvs_rep (n : Nat) : bvs (List.replicate n 0) = List.replicate n (.int .u8 0) := by simp [bvs, bv]
theorem run_copy_pre {P : Program} (w : World) (T e : TypeId) (hu : P.underlying T = some (.slice e)) (hs : (P.info? e).map (·.size) = some 1) (ty : TypeId) (g n : Nat) (z : List Value) (hz : z.length = n) (t : TypeId) (hb : Blk w g t z.toArray)
    (k : List UInt8) (A : Option Addr) (c B : Nat) (hk : k.length ≤ n) (hr : ReadB w B A k) :
    ∃ w', (Builtin.copy_ #[T, T] ty #[.slice (some ⟨g, 0, none⟩) n n, .slice A k.length c]).run P w = .ok (goInt k.length) w' ∧ Blk w' g t (bvs k ++ z.drop k.length).toArray ∧ w.grownBy w' (some g) := by
  by_cases h0 : k.length = 0
  · have hk0 : k = [] := List.eq_nil_of_length_eq_zero h0
    subst hk0
    refine ⟨w, run_copy_none w T T ty e _ _ n n 0 c hu hs (by simp), by simpa [bvs] using hb, ⟨rfl, rfl, rfl, Nat.le_refl _, fun _ _ _ => rfl⟩⟩
  · obtain ⟨b, o, rfl, _, hcell⟩ := hr (by omega)
    refine ⟨w.setRow g (z.toArray.toList.take 0 ++ bvs k ++ z.toArray.toList.drop (0 + k.length)).toArray, ?_, ?_, ?_⟩
    · have h := run_copy_row (P := P) w T T ty e g 0 n n ⟨b, o, none⟩ k.length c z.toArray t (bvs k) hu hs hb (by rw [bvs_length]; exact (Nat.min_eq_left hk).symm) ?_ (by simp [bvs_length]; omega) (bvs_one k)
      · rw [bvs_length] at h
        exact h
      · intro j v hj
        have hjl : j < k.length := by have := (List.getElem?_eq_some_iff.1 hj).1; rwa [bvs_length] at this
        rw [bvs_get k j hjl] at hj
        injection hj with hj
        subst hj
        rw [add_lit_]
        exact hcell j hjl
    · have h := setRow_heap w g z.toArray (z.toArray.toList.take 0 ++ bvs k ++ z.toArray.toList.drop (0 + k.length)).toArray t (0, 0) hb
      simp only [List.take_zero, List.nil_append, Nat.zero_add] at h ⊢
      exact h
    · exact ⟨rfl, rfl, rfl, by simp [World.setRow], fun i hi hne => setRow_other w g i _ (fun e => hne (by rw [e]))⟩
set_option maxRecDepth 100000 in
set_option maxHeartbeats 2000000 in
theorem pad_calls (k : List UInt8) (A : Option Addr) (c : Nat) (hk : k.length ≤ 64) (x : UInt8) (w : World) (hr : ReadB w w.heap.size A k) :
    Calls Tryd.prog 50 #[.slice A k.length c, .int .u8 (x.toNat : Int)] w fun e w' => ∃ g, e = .returned (.slice (some ⟨g, 0, none⟩) 64 64) ∧ w.heap.size ≤ g ∧ Blk w' g 5 (bvs (mpad k x)).toArray ∧ Below w.heap.size w w' := by
  obtain ⟨i0, hi0⟩ := isByte_of info5
  have hmk := run_mk64 i0 hi0 w
  obtain ⟨w2, hcp, hB2, hg2⟩ := run_copy_pre (P := Tryd.prog) (w.alloc (.cells (bvs (List.replicate 64 0)).toArray 5)) 22 5 Tryd.underlying22 (by kernel_rfl) 3 w.heap.size 64 (bvs (List.replicate 64 0)) (by rfl) 5 (heap_alloc_new _ _) k A c w.heap.size hk (hr.alloc (Nat.le_refl _) _)
  have e0 : bvs k ++ (bvs (List.replicate 64 0)).drop k.length = bvs (mpt k x 0) := by
    rw [mpt_zero k x hk, bvs_append]
    congr 1
    rw [bvs_rep, bvs_rep, List.drop_replicate]
  rw [e0] at hB2
  have hb2 : Below w.heap.size w w2 := only_after ((Below.refl _ _).alloc (Nat.le_refl _) _) hg2 (Nat.le_refl _)
  have HB := Lib.hid hB2
  have Hb := Lib.hid hb2
  have Hk := Lib.hid hk
  obtain ⟨z, hz⟩ : ∃ z, z = (bvs (List.replicate 64 0)).toArray := ⟨_, rfl⟩
  rw [← hz] at hmk hcp
  clear hr hi0 hz hB2 hb2 hg2 e0 hk
  go_enter Tryd.func50, Tryd.ntmps50
  go_wp2_with fail
  go_loopg [13] 64 (fun n v wr => ∃ i : Nat, i ≤ 64 ∧ n = 64 - i ∧ v = .int .i64 i ∧ Blk wr w.heap.size 5 (bvs (mpt k x i)).toArray ∧ Below w.heap.size w wr)
  case atStart => exact ⟨0, by omega, rfl, rfl, HB.out, Hb.out⟩
  case round =>
    obtain ⟨i, hi64, hn, rfl, hB, hb⟩ := hrel
    have HX := Lib.hid hB
    have Hbw := Lib.hid hb
    have Hn := Lib.hid hn
    clear hn hb hB HB Hb
    by_cases hil : i < 64
    · have hcell := Blk.cell HX.out i
      rw [List.getElem?_toArray, bvs_get _ _ (by rw [mpt_len]; omega), mpt_at k x i i hil, if_neg (by omega)] at hcell
      have hfz := Blk.frozen HX.out i
      have hx := x8 (k.getD i 0) x
      obtain ⟨a, ha⟩ : ∃ a, a = k.getD i 0 := ⟨_, rfl⟩
      obtain ⟨v, hv⟩ : ∃ v, v = k.getD i 0 ^^^ x := ⟨_, rfl⟩
      rw [← hv, ← ha] at hx
      rw [← ha] at hcell
      have Hv := Lib.hid hv
      clear ha hv
      go_wp2_with fail
      go_roundg (64 - (i + 1))
      case rel =>
        refine ⟨i + 1, by omega, rfl, by simp, ?_, Hbw.out.setCell (by simp) _⟩
        have := Blk.set_ HX.out i (.int .u8 (v.toNat : Int))
        rw [toArray_set] at this
        have e : (bvs (mpt k x i)).set i (.int .u8 (v.toNat : Int)) = bvs (mpt k x (i + 1)) := by
          rw [← mpt_step k x i hil, ← Hv.out]
          simp [bvs, List.map_set, bv]
        rw [e] at this
        exact this
      all_goals (have := Hn.out; omega)
    · have hX := HX.out
      rw [show i = 64 by omega, mpt_end] at hX
      have HX2 := Lib.hid hX
      clear hX
      go_wp2_with fail
      go_ret
      exact ⟨_, rfl, Nat.le_refl _, HX2.out, Hbw.out⟩
end Mc
end Go.Proofs.YtlkcibhdnicpkaaDoor
/- The sum that a hasher tells. -/
namespace Go.Proofs.YtlkcibhdnicpkaaDoor
namespace Sm
open Go.RowKit Ba
set_option linter.unusedVariables false
attribute [local go_sem] U_add U_add' U_xor U_and U_or U_of_u8
theorem sh8 (n k : Nat) : (n : Int) * 8 / (2 : Int) ^ (56 - 8 * k) % 256 = ((UInt8.ofNat (8 * n / 2 ^ (56 - 8 * k))).toNat : Int) := by
  rw [UInt8.toNat_ofNat', Int.mul_comm]
  have e : ((2 : Int) ^ (56 - 8 * k)) = ((2 ^ (56 - 8 * k) : Nat) : Int) := by rw [Int.natCast_pow]; rfl
  rw [e]
  generalize 2 ^ (56 - 8 * k) = m
  have e2 : (8 * (n : Int)) / (m : Int) = ((8 * n / m : Nat) : Int) := by rw [Int.natCast_ediv]; rfl
  rw [e2]
  omega
theorem sh4 (x : UInt32) (k : Nat) : U x / (2 : Int) ^ (24 - 8 * (k % 4)) % 256 = (((x >>> UInt32.ofNat (24 - 8 * (k % 4))).toUInt8).toNat : Int) := by
  rw [U_shr x _ (by omega)]
  unfold U
  rw [UInt32.toNat_toUInt8]
  omega
theorem three_start {w w3 : World} {C1 C2 C3 : Array Value} {t1 t2 t3 : TypeId} (h : (((w.alloc (.cells C1 t1)).alloc (.cells C2 t2)).alloc (.cells C3 t3)).grownBy w3 (some (w.heap.size + 2))) :
    Below w.heap.size w w3 ∧ Blk w3 w.heap.size t1 C1 ∧ Blk w3 (w.heap.size + 1) t2 C2 := by
  have hb : Below w.heap.size w (((w.alloc (.cells C1 t1)).alloc (.cells C2 t2)).alloc (.cells C3 t3)) := (((Below.refl _ _).alloc (Nat.le_refl _) _).alloc (by simp) _).alloc (by simp; omega) _
  have h1 : Blk (((w.alloc (.cells C1 t1)).alloc (.cells C2 t2)).alloc (.cells C3 t3)) w.heap.size t1 C1 := Blk.alloc (Blk.alloc (heap_alloc_new _ _) _) _
  have h2 : Blk (((w.alloc (.cells C1 t1)).alloc (.cells C2 t2)).alloc (.cells C3 t3)) (w.heap.size + 1) t2 C2 := Blk.alloc (heap_alloc2_new _ _ _) _
  exact ⟨only_after hb h (by omega), h1.grown h (by simp), h2.grown h (by simp)⟩
theorem bvs_rep32 : #[Value.int .u8 0, .int .u8 0, .int .u8 0, .int .u8 0, .int .u8 0, .int .u8 0, .int .u8 0, .int .u8 0, .int .u8 0, .int .u8 0, .int .u8 0, .int .u8 0, .int .u8 0, .int .u8 0, .int .u8 0, .int .u8 0, .int .u8 0, .int .u8 0, .int .u8 0, .int .u8 0, .int .u8 0, .int .u8 0, .int .u8 0, .int .u8 0, .int .u8 0, .int .u8 0, .int .u8 0, .int .u8 0, .int .u8 0, .int .u8 0, .int .u8 0, .int .u8 0] = (bvs (List.replicate 32 0)).toArray := rfl
set_option maxRecDepth 100000 in
set_option maxHeartbeats 2000000 in
theorem sum_calls (w : World) (g : Nat) (l : List UInt8) (h : IsH w g l) (hg : 0 < g) (htab : Tab w) (hll : l.length ≤ 1152921504606846975) :
    Calls Tryd.prog 18 #[.pointer (some ⟨g, 0, none⟩)] w fun e w' => e = .returned (.agg (bvs (sha l)).toArray) ∧ Below w.heap.size w w' := by
  obtain ⟨i0, hi0⟩ := isByte_of info5
  have Hi := Lib.hid hi0
  have hgl := h.lt
  obtain ⟨A0, c0, h1, h2, h3, h4, h5⟩ := h
  have hc9 := cell9 h1 h2
  have hc8 := cell8 h1 h2
  have hrl := rs_len l
  have Hrl := Lib.hid hrl
  have H1 := Lib.hid h1
  have H2 := Lib.hid h2
  have H5 := Lib.hid h5
  have Htab := Lib.hid htab
  have Hgl := Lib.hid hgl
  have hlen : (rs l).length ≤ 63 := by omega
  clear hrl h1 h2 h5 htab hgl hi0
  go_enter Tryd.func18, Tryd.ntmps18
  go_wp2_with (first
    | (refine wpList_load_blk rfl 68 (.tmp 13) rfl g 0 71 [] (wvs (st l)) _ rfl (Blk.alloc (Blk.alloc H1.out _) _) rfl _ Tryd.underlying68 rfl (by rw [wvs_len, H2.out]; kernel_rfl) ?_)
    | (refine wpList_storeW rfl 68 (.tmp 4) (.tmp 14) rfl (w.heap.size + 2) 68 (List.replicate 8 0) (st l) rfl rfl (BlkW.new_ _ _ _ _ _ (by simp) (by rfl)) (by rw [H2.out]; rfl) (by rw [H2.out]; kernel_rfl) ?_; intro w3 hS3 hg3; obtain ⟨hb3, hR2, hR3⟩ := three_start hg3; have hB3 := H1.out.below hb3 Hgl.out; have hc8 := cell8 hB3 H2.out; have hc9 := cell9 hB3 H2.out; have HB3 := Lib.hid hB3; have HS3 := Lib.hid hS3; have HR2 := Lib.hid hR2; have HR3 := Lib.hid hR3; have HT3 := Lib.hid (H5.out.below hb3); have Htab3 := Lib.hid (Htab.out.below hb3); have Hb3 := Lib.hid hb3; clear hS3 hg3 hb3 hR2 hR3 hB3)
    | (go_at_call 43; refine (clone_calls (rs l) A0 c0 h3 (by omega) _ HT3.out.readB).mono ?_; rintro e w4 ⟨v4, rfl, ho4, hb4⟩; have Ho4 := Lib.hid ho4; have Hb4 := Lib.hid hb4; clear ho4 hb4)
    | (at_builtin; go_loud (refine wpList_appB _ rfl (.tmp 19) (.tmp 20) 22 rfl w3.heap.size 5 i0 Tryd.underlying22 Hi.out v4 (rs l) rfl (Ho4.out.alloc _) _ _ _ 1 [128] rfl rfl (ReadB.lit1 _ _ 128 128 rfl) (by simp; omega) (by have := Hb4.out.size; simp; omega) ?_); intro v5 w5 ho5 _ _ hb5; have Ho5 := Lib.hid ho5; have Hb5 := Lib.hid ((Hb4.out.alloc Hb4.out.size _).trans hb5); clear ho5 hb5))
  rw [bvs_rep32] at HR2 HR3
  clear hc8 HT3 Ho4 Hb4
  obtain ⟨n, hn⟩ : ∃ n, n = l.length := ⟨_, rfl⟩
  have Hn := Lib.hid hn
  clear hn
  have hz := zeros_lt n
  have Hz := Lib.hid hz
  clear hz
  go_loopg [5] (zeros n) (fun m v wr => ∃ j : Nat, j ≤ zeros n ∧ m = zeros n - j ∧ OwnB wr w3.heap.size 5 v (rs l ++ 128 :: List.replicate j 0) ∧ Below w3.heap.size w3 wr)
  case atStart => exact ⟨0, Nat.zero_le _, rfl, Ho5.out, Hb5.out⟩
  case round =>
    obtain ⟨j, hj, hm, ho, hb⟩ := hrel
    obtain ⟨q, hq⟩ : ∃ q, q = rs l ++ 128 :: List.replicate j 0 := ⟨_, rfl⟩
    rw [← hq] at ho
    have hql : q.length = n % 64 + 1 + j := by rw [hq, List.length_append, Hrl.out, ← Hn.out]; simp; omega
    have Hq := Lib.hid hq
    have Hm := Lib.hid hm
    obtain ⟨A5, c5, rfl, p1, p2, p3, p4⟩ := ho.opens
    have Ho := Lib.hid ho
    have Hb := Lib.hid hb
    have Hql := Lib.hid hql
    have hlt : q.length < 200 := by have := Hz.out; omega
    clear p3 p4 hb ho hm hq
    by_cases hjz : j < zeros n
    · have t1 : ((q.length : Int) % 64 == 56) = false := by
        have : ¬ (q.length : Int) % 64 = 56 := by unfold zeros at hjz; omega
        simpa using this
      have t2 : ((q.length : Int) % 64 != 56) = true := by rw [bne, t1]; rfl
      clear hql
      go_wp2_with ((at_builtin; go_loud (refine wpList_appB _ rfl (.tmp 26) (.tmp 27) 22 rfl w3.heap.size 5 i0 Tryd.underlying22 Hi.out _ q rfl (Ho.out.alloc _) _ _ _ 1 [0] rfl rfl (ReadB.lit1 _ _ 0 0 rfl) (by simp; omega) (by have := Hb.out.size; simp; omega) ?_); intro v6 w6 ho6 _ _ hb6; have Ho6 := Lib.hid ho6; have Hb6 := Lib.hid ((Hb.out.alloc Hb.out.size _).trans hb6); clear ho6 hb6))
      go_roundg (zeros n - (j + 1))
      case rel =>
        refine ⟨j + 1, by omega, rfl, ?_, Hb6.out⟩
        have e : rs l ++ 128 :: List.replicate (j + 1) 0 = q ++ [0] := by rw [Hq.out, List.replicate_succ']; simp
        rw [e]
        exact Ho6.out
      case measure => have := Hm.out; omega
    · have hjz2 : j = zeros n := by omega
      have t1 : ((q.length : Int) % 64 == 56) = true := by
        have : (q.length : Int) % 64 = 56 := by unfold zeros at hjz2; omega
        simpa using this
      have t2 : ((q.length : Int) % 64 != 56) = false := by rw [bne, t1]; rfl
      have hq2 := Hq.out
      rw [hjz2] at hq2
      have Hq2 := Lib.hid hq2
      have Hjz2 := Lib.hid hjz2
      clear hql hjz hjz2 hq2
      go_wp2
      clear t1 t2
      have hn60 : n ≤ 1152921504606846975 := by rw [Hn.out]; exact hll
      rw [← Hn.out] at HB3
      go_loopw [5, 6] (fun v i wx => ∃ k : Nat, k ≤ 8 ∧ i = .int .i64 (56 - 8 * (k : Int)) ∧ OwnB wx w3.heap.size 5 v (q ++ (bytes8 (8 * n)).take k) ∧ Below w3.heap.size w3 wx) (fun _ i _ => (intOf i + 8).toNat)
      case atStart => exact ⟨0, Nat.zero_le _, rfl, by rw [List.take_zero, List.append_nil]; exact Ho.out, Hb.out⟩
      case round =>
        obtain ⟨k, hk, rfl, ho, hb⟩ := hrel
        obtain ⟨p, hp⟩ : ∃ p, p = q ++ (bytes8 (8 * n)).take k := ⟨_, rfl⟩
        rw [← hp] at ho
        have Hp := Lib.hid hp
        have hpl : p.length ≤ 300 := by rw [hp, List.length_append, List.length_take]; omega
        clear hp
        obtain ⟨A7, c7, rfl, p5, p6, p7, p8⟩ := ho.opens
        have hc9 := cell9 (HB3.out.below hb HB3.out.lt) H2.out
        have Ho7 := Lib.hid ho
        have Hb7 := Lib.hid hb
        clear p7 p8 hb ho
        by_cases hk8 : k < 8
        · have hu8 := sh8 n k
          generalize hz : UInt8.ofNat (8 * n / 2 ^ (56 - 8 * k)) = z at hu8
          have Hz8 := Lib.hid hz
          clear hz
          go_wp2_with ((at_builtin; go_loud (refine wpList_appB _ rfl (.tmp 33) (.tmp 43) 22 rfl w3.heap.size 5 i0 Tryd.underlying22 Hi.out _ p rfl (Ho7.out.alloc _) _ _ _ 1 [z] rfl rfl (ReadB.lit1 _ _ _ _ (by first | rfl | exact hu8)) (by simp; omega) (by have := Hb7.out.size; simp; omega) ?_); intro v8 w8 ho8 _ _ hb8; have Ho8 := Lib.hid ho8; have Hb8 := Lib.hid ((Hb7.out.alloc Hb7.out.size _).trans hb8); clear ho8 hb8))
          go_roundw
          case rel =>
            refine ⟨k + 1, by omega, by rw [show (56 - 8 * (k : Int) - 8) = 56 - 8 * ((k + 1 : Nat) : Int) by omega], ?_, Hb8.out⟩
            rw [bytes8_succ _ _ hk8, ← List.append_assoc, ← Hp.out, Hz8.out]
            exact Ho8.out
          case measure => simp [intOf]; omega
        · have hk8' : k = 8 := by omega
          obtain ⟨P, hP⟩ : ∃ P, P = l ++ pad n := ⟨_, rfl⟩
          have hpP : p = P.drop (64 * (l.length / 64)) := by
            rw [Hp.out, hk8', Hq2.out, hP, ← rs_append, pad_eq, List.append_assoc]
            rfl
          have hPl : P.length % 64 = 0 := by
            rw [hP, List.length_append, pad_len, Hn.out]
            exact zeros_mod _
          have hPle : 64 * (l.length / 64) ≤ P.length := by rw [hP, List.length_append]; omega
          have hPst : st l = stk P (l.length / 64) := by rw [hP]; exact st_append _ _
          have hPm : P.length ≤ 2305843009213693952 := by rw [hP, List.length_append, pad_len, ← Hn.out]; have := Hz.out; omega
          have hT7 : ReadT wr 5 A7 p := ReadT.of_own Ho7.out
          rw [hPst] at HS3
          have hHb3s := Hb3.out.size
          have HP := Lib.hid hP
          have HpP := Lib.hid hpP
          have HPl := Lib.hid hPl
          have HT7 := Lib.hid hT7
          clear hP hpP hPl hPst hT7 hc9 Ho7
          obtain ⟨g4, hg4⟩ : ∃ g4, g4 = w.heap.size + 2 := ⟨_, rfl⟩
          rw [← hg4] at HS3
          have Hg4 := Lib.hid hg4
          clear hg4
          go_wp2
          have hS7 := HS3.out.below Hb7.out HS3.out.lt
          have hw7 := only_of_below Hb7.out (some g4)
          have HS7 := Lib.hid hS7
          have Hw7 := Lib.hid hw7
          have hg40 : 0 < g4 := by rw [Hg4.out]; omega
          rw [show (w.heap.size + 1 + 1) = g4 from by rw [Hg4.out]]
          have HpS : Hid (.slice A7 p.length c7 = Value.slice A7 (P.drop (64 * (l.length / 64))).length c7) := Lib.hid (by rw [← HpP.out])
          rw [HpP.out] at HT7 p5
          clear hk8' hk8 hk Hp hS7 hw7
          go_loopg [5] (P.length - 64 * (l.length / 64)) (fun m v wx => ∃ (j : Nat) (A : Option Addr) (c : Nat), 64 * j ≤ P.length ∧ m = P.length - 64 * j ∧ v = .slice A (P.drop (64 * j)).length c ∧ (P.drop (64 * j)).length ≤ c ∧ c ≤ 9223372036854775807 ∧ ReadT wx 5 A (P.drop (64 * j)) ∧ BlkW wx g4 68 (stk P j) ∧ w3.grownBy wx (some g4))
          case atStart => exact ⟨_, A7, c7, hPle, rfl, HpS.out, p5, p6, HT7.out, HS7.out, Hw7.out⟩
          case round =>
            obtain ⟨j, A, c, hj, hm, hv, hrc, hcc, hT, hS, hgw⟩ := hrel
            obtain ⟨r, hr⟩ : ∃ r, r = P.drop (64 * j) := ⟨_, rfl⟩
            rw [← hr] at hv hrc hT
            subst hv
            have hrlen : r.length = P.length - 64 * j := by rw [hr, List.length_drop]
            have HS := Lib.hid hS
            have HT := Lib.hid hT
            have Hgw := Lib.hid hgw
            have Hm := Lib.hid hm
            have Hrr := Lib.hid hr
            have Hrlen := Lib.hid hrlen
            have hrm : r.length ≤ 9223372036854775807 := Nat.le_trans hrc hcc
            clear hS hT hgw hm hr hrlen
            by_cases h0 : 0 < r.length
            · have h64 : 64 ≤ r.length := by have := Hrlen.out; have := HPl.out; omega
              obtain ⟨b5, o5, cs5, rfl, hb5, hcl5⟩ := HT.out (by omega)
              have hwk : Calls Tryd.prog 44 #[.pointer (some ⟨g4, 0, none⟩), .slice (some ⟨b5, o5, none⟩) 64 c] wr
                  fun e w' => e = .returned (.tuple #[]) ∧ BlkW w' g4 68 (stk P (j + 1)) ∧ wr.grownBy w' (some g4) := by
                have hr64 : ReadB wr wr.heap.size (some ⟨b5, o5, none⟩) (r.take 64) := HT.out.readB.take 64
                refine (work_calls (stk P j) (stk_len _ _) g4 68 [] (r.take 64) (by rw [List.length_take]; omega) (some ⟨b5, o5, none⟩) c (by omega) hcc wr hr64 (by rw [List.append_nil]; exact HS.out) hg40 (Htab3.out.grown Hgw.out hg40)).mono ?_
                rintro e w' ⟨h1, h2, h3⟩
                refine ⟨h1, ?_, h3⟩
                rw [Hrr.out, List.append_nil] at h2
                exact h2
              have Hwk := Lib.hid hwk
              clear hwk hb5 hcl5
              have i1 : (0 : Int) ≤ 64 := by omega
              have i2 : (64 : Int) ≤ (c : Int) := by omega
              go_wp2_with fail
              refine Hwk.out.mono ?_
              rintro e w5 ⟨rfl, hS5, hg5⟩
              have hT5 := HT.out.grown hg5 HS.out (by decide)
              have hfin : ∀ A' c', A' = (if c = 64 then (some ⟨b5, o5, none⟩) else (some ⟨b5, o5 + 64, none⟩)) → c' = c - 64 →
                  (Value.slice A' (r.length - 64) c' = .slice A' (P.drop (64 * (j + 1))).length c' ∧ (P.drop (64 * (j + 1))).length ≤ c' ∧ c' ≤ 9223372036854775807 ∧ ReadT w5 5 A' (P.drop (64 * (j + 1))) ∧ BlkW w5 g4 68 (stk P (j + 1)) ∧ w3.grownBy w5 (some g4)) := by
                intro A' c' hA hc'
                have e : P.drop (64 * (j + 1)) = r.drop 64 := by rw [Hrr.out, drop_drop64]
                have hT6 : ReadT w5 5 A' (r.drop 64) := by
                  subst hA
                  by_cases hc : c = 64
                  · have : r.drop 64 = [] := by rw [List.drop_eq_nil_iff]; omega
                    rw [this]
                    exact ReadT.nil
                  · rw [if_neg hc]
                    exact hT5.drop 64
                rw [e, List.length_drop]
                exact ⟨rfl, by omega, by omega, hT6, hS5, only_trans Hgw.out hg5⟩
              have Hfin := Lib.hid hfin
              clear hS5 hT5 hg5 hfin
              by_cases hc64 : c = 64
              all_goals
                go_wp2
                go_roundg (P.length - 64 * (j + 1))
                case rel =>
                  have := Hrlen.out
                  exact ⟨j + 1, _, _, by omega, rfl, Hfin.out _ _ (by simp [hc64]) (by omega)⟩
                case measure =>
                  have := Hm.out
                  have := Hrlen.out
                  omega
            · have hjj : j = P.length / 64 := by have := Hrlen.out; have := HPl.out; omega
              have hS8 := HS.out
              rw [hjj] at hS8
              have e : stk P (P.length / 64) = st P := rfl
              rw [e] at hS8
              have hsl : (st P).length = 8 := stk_len _ _
              have ho : out (st P) = sha l := by rw [HP.out, Hn.out]; rfl
              obtain ⟨S, hSS⟩ : ∃ S, S = st P := ⟨_, rfl⟩
              rw [← hSS] at hS8 hsl ho
              have hlt4 := HS3.out.lt
              have hR2 := Blk.grown (HR2.out) Hgw.out (by rw [Hg4.out]; simp)
              have hR3 := Blk.grown (HR3.out) Hgw.out (by rw [Hg4.out]; simp)
              have hbw : Below w.heap.size w wr := Hb3.out.trans (below_of_only Hgw.out (by rw [Hg4.out]; omega) hHb3s)
              have Ho := Lib.hid ho
              have HS8 := Lib.hid hS8
              have Hsl := Lib.hid hsl
              have HR2' := Lib.hid hR2
              have HR3' := Lib.hid hR3
              have Hbw := Lib.hid hbw
              clear ho hS8 hsl hR2 hR3 hbw hSS hjj e hlt4
              go_wp2
              go_loopw [7, 53] (fun _ i wx => ∃ k : Nat, k ≤ 32 ∧ i = .int .i64 k ∧ Blk wx (w.heap.size + 1) 26 (bvs (oo S k)).toArray ∧ BlkW wx g4 68 S ∧ Blk wx w.heap.size 26 (bvs (List.replicate 32 0)).toArray ∧ Below w.heap.size w wx) (fun _ i _ => 32 - (intOf i).toNat)
              case atStart => exact ⟨0, Nat.zero_le _, rfl, HR3'.out, HS8.out, HR2'.out, Hbw.out⟩
              case round =>
                obtain ⟨i, hi, rfl, hR3, hS8, hR2, hbw⟩ := hrel
                by_cases hil : i < 32
                · have hcs := hS8.cell (i / 4) (by rw [Hsl.out]; omega)
                  have hco := Blk.cell hR3 i
                  rw [List.getElem?_toArray, bvs_get _ _ (by rw [oo_len _ _ hi]; omega)] at hco
                  have hfo := Blk.frozen hR3 i
                  have hs4 := sh4 (Sm.g S (i / 4)) i
                  generalize hz : (Sm.g S (i / 4) >>> UInt32.ofNat (24 - 8 * (i % 4))).toUInt8 = z at hs4
                  have Hz9 := Lib.hid hz
                  clear hz
                  have HR3 := Lib.hid hR3
                  have HS8 := Lib.hid hS8
                  have HR2 := Lib.hid hR2
                  have Hbw := Lib.hid hbw
                  clear hR3 hS8 hR2 hbw
                  go_wp2
                  go_roundw
                  case rel =>
                    refine ⟨i + 1, by omega, by go_num, ?_, HS8.out.far (by rw [Hg4.out]; simp) _, HR2.out.far (by simp) _, Hbw.out.setCell (by simp) _⟩
                    have := Blk.set_ HR3.out i (.int .u8 (z.toNat : Int))
                    rw [toArray_set] at this
                    have e : (bvs (oo S i)).set i (.int .u8 (z.toNat : Int)) = bvs (oo S (i + 1)) := by
                      rw [← oo_set S i hil, Hz9.out]
                      simp [bvs, List.map_set, bv]
                    rw [e] at this
                    exact this
                  case measure => simp [intOf]; omega
                · have hi32 : i = 32 := by omega
                  rw [hi32, oo_32, Ho.out] at hR3
                  have hlo : (sha l).length = 32 := by rw [← Ho.out]; exact out_len _
                  have HR3 := Lib.hid hR3
                  have HR2 := Lib.hid hR2
                  have Hbw := Lib.hid hbw
                  have Hlo := Lib.hid hlo
                  clear hR3 hS8 hR2 hbw hi32 hi hlo
                  go_wp2_with (first
                    | (refine wpList_load_blk rfl 26 (.tmp 3) rfl (w.heap.size + 1) 0 26 [] (bvs (sha l)) [] rfl (by simpa using HR3.out) rfl _ Tryd.underlying26 rfl (by rw [bvs_length, Hlo.out]; kernel_rfl) ?_)
                    | (refine wpList_store_blk rfl 26 (.tmp 2) (.tmp 69) rfl w.heap.size 0 26 [] (bvs (List.replicate 32 0)) [] (bvs (sha l)) rfl rfl (by simpa using HR2.out) rfl (by rw [bvs_length, bvs_length, Hlo.out]; rfl) (by rw [bvs_length, Hlo.out]; kernel_rfl) (bvs_one _) ?_; intro w9 hR9 hg9))
                  refine bodyPost_ret (results_cell_row (p := 2) (ty := 26) (by kernel_rfl) _ w9 w.heap.size 26 (bvs (sha l)).toArray (0, 0) _ rfl (by simp only [List.nil_append, List.append_nil] at hR9; exact hR9) Tryd.underlying26 rfl (by rw [List.size_toArray, bvs_length, Hlo.out]; kernel_rfl)) rfl ⟨rfl, Hbw.out.trans (below_of_only hg9 (Nat.le_refl _) Hbw.out.size)⟩
end Sm
end Go.Proofs.YtlkcibhdnicpkaaDoor
/- A region that draws its order, holds calls and loads, and ends in a store to what it has read: one walk serves every order. F holds till the operation k comes up, which waits for all that lean on F. -/
namespace Go.Proofs.YtlkcibhdnicpkaaDoor
namespace CanL
set_option linter.unusedVariables false
section
variable {P : Program} {ops : Array Oper} {Q : Exit → Act → World → Prop} {F : World → Prop} {k : Nat}

def St (F : World → Prop) (k : Nat) (listed : Array Bool) (w : World) : Prop := listed.getD k false = false → F w
theorem St.mono {listed : Array Bool} {w : World} (h : St F k listed w) (i : Nat) : St F k (listed.setIfInBounds i true) w := fun h1 => h (by
  cases hb : listed.getD k false
  · rfl
  · rw [getD_set_true hb] at h1; cases h1)
def wpAnyL (P : Program) (ops : Array Oper) (Q : Exit → Act → World → Prop) (F : World → Prop) (k : Nat) : Nat → Array Bool → Act → World → Prop
  | 0, listed, a, w => Region.ready .any ops listed = [] ∧ Q .normal a w
  | fuel + 1, listed, a, w => (Region.ready .any ops listed = [] → Q .normal a w) ∧
    ∀ i ∈ Region.ready .any ops listed, wpOp P ops Q i (fun a' w' => St F k (listed.setIfInBounds i true) w' ∧ wpAnyL P ops Q F k fuel (listed.setIfInBounds i true) a' w') a w
theorem wpAny_of_L : ∀ (fuel : Nat) (listed : Array Bool) (a : Act) (w : World), wpAnyL P ops Q F k fuel listed a w → wpAny P .any ops Q fuel listed a w
  | 0, _, _, _, h => h
  | fuel + 1, _, _, _, h => ⟨h.1, fun i hi => wpOp_mono (fun a' w' h' => wpAny_of_L fuel _ a' w' h'.2) (h.2 i hi)⟩
/-- the operation k waits for i -/
def waits (ops : Array Oper) (k i : Nat) : Bool := match ops[k]? with | some o => o.after.any fun e => Region.binds .any e && e.on == i | none => true

theorem unlisted_of_ready {listed : Array Bool} {i : Nat} {oj : Oper} (hr : i ∈ Region.ready .any ops listed) (hall : ∀ e ∈ oj.after, Region.binds .any e = true → listed.getD e.on false = true) : ∀ e ∈ oj.after, Region.binds .any e = true → e.on ≠ i := fun e he hb heq => by
  have h1 := hall e he hb
  have h0 := (mem_ready.1 hr).1
  rw [heq] at h1
  rcases Nat.lt_or_ge i listed.size with h' | h'
  · simp [h'] at h0 h1; rw [h0] at h1; cases h1
  · simp [Array.getElem?_eq_none h'] at h1

/-- what yields under F, before k, may be taken first -/
theorem first {i : Nat} {oi : Oper} {v : Value} (hi : ops[i]? = some oi) (hsel : ∀ (j : Nat) (o : Oper) cs b, ops[j]? = some o → o.op ≠ .select cs b)
    (hQ : ∀ c a w, Q (.panic c) (a.put oi.dst v) w → Q (.panic c) a w) (hk : waits ops k i = true) :
    ∀ (fuel : Nat) (listed : Array Bool) (a : Act) (w : World),
      (∀ j oj, ops[j]? = some oj → j ≠ i → listed.getD j true = false → (∀ e ∈ oj.after, Region.binds .any e = true → e.on ≠ i) → oi.apart ops oj = true) →
      i ∈ Region.ready .any ops listed → YieldsIf P ops F oi v a → listed.getD k false = false → F w →
      wpAnyL P ops Q F k fuel (listed.setIfInBounds i true) (a.put oi.dst v) w → wpAnyL P ops Q F k (fuel + 1) listed a w := by
  intro fuel
  induction fuel with
  | zero =>
    intro listed a w _ hr hy hkl hF H
    refine ⟨fun h => (by rw [h] at hr; cases hr), fun j hj => ?_⟩
    by_cases hji : j = i
    · subst hji; exact hy.wpOp hi hF ⟨fun _ => hF, H⟩
    · have := ready_mono hj hji
      rw [H.1] at this
      cases this
  | succ fuel ih =>
    intro listed a w hfree hr hy hkl hF H
    refine ⟨fun h => (by rw [h] at hr; cases hr), fun j hj => ?_⟩
    by_cases hji : j = i
    · subst hji; exact hy.wpOp hi hF ⟨fun _ => hF, H⟩
    · have h1 := H.2 j (ready_mono hj hji)
      obtain ⟨hjun, oj, hoj, hall⟩ := mem_ready.1 hj
      have hnot := unlisted_of_ready hr hall
      have hjk : j ≠ k := fun e => by
        subst e
        unfold waits at hk
        rw [hoj] at hk
        simp only [Array.any_eq_true', Bool.and_eq_true, beq_iff_eq] at hk
        obtain ⟨e, he, hb, heq⟩ := hk
        exact hnot e he hb heq
      have hkl' : (listed.setIfInBounds j true).getD k false = false := by rw [getD_set_ne false hjk]; exact hkl
      have h2 := wpOp_putIf hoj (hfree j oj hoj hji hjun hnot) (fun cs b => hsel i oi cs b hi) (fun cs b => hsel j oj cs b hoj) hQ hy h1
      have hfree' : ∀ m om, ops[m]? = some om → m ≠ i → (listed.setIfInBounds j true).getD m true = false →
          (∀ e ∈ om.after, Region.binds .any e = true → e.on ≠ i) → oi.apart ops om = true := fun m om hm hmi hun hno => by
        refine hfree m om hm hmi ?_ hno
        by_cases hjm : j = m
        · subst hjm; exact hjun
        · rw [getD_set_ne true hjm] at hun; exact hun
      refine wpOp_mono (fun a' w' h3 => ?_) h2
      obtain ⟨hy', hS', h4⟩ := h3
      have hS2 : F w' := hS' (by rw [Array.setIfInBounds_comm _ _ (Ne.symm hji)]; rw [getD_set_ne false (fun e => by
        subst e
        unfold waits at hk
        rw [hi] at hk
        simp only [Array.any_eq_true', Bool.and_eq_true, beq_iff_eq] at hk
        obtain ⟨e, he, hb, heq⟩ := hk
        obtain ⟨hun, oi', hoi', hall'⟩ := mem_ready.1 hr
        rw [hi] at hoi'
        injection hoi' with hoi'
        subst hoi'
        exact unlisted_of_ready hr hall' e he hb heq)]; exact hkl')
      refine ⟨fun _ => hS2, ih (listed.setIfInBounds j true) a' w' hfree' (ready_mono hr (Ne.symm hji)) hy' hkl' hS2 ?_⟩
      rw [Array.setIfInBounds_comm _ _ hji]
      exact h4

/-- what yields in whatever world may be taken first -/
theorem firstAll {i : Nat} {oi : Oper} {v : Value} (hi : ops[i]? = some oi) (hsel : ∀ (j : Nat) (o : Oper) cs b, ops[j]? = some o → o.op ≠ .select cs b)
    (hQ : ∀ c a w, Q (.panic c) (a.put oi.dst v) w → Q (.panic c) a w) (hik : i ≠ k) :
    ∀ (fuel : Nat) (listed : Array Bool) (a : Act) (w : World),
      (∀ j oj, ops[j]? = some oj → j ≠ i → listed.getD j true = false → (∀ e ∈ oj.after, Region.binds .any e = true → e.on ≠ i) → oi.apart ops oj = true) →
      i ∈ Region.ready .any ops listed → Yields P ops oi v a → St F k listed w →
      wpAnyL P ops Q F k fuel (listed.setIfInBounds i true) (a.put oi.dst v) w → wpAnyL P ops Q F k (fuel + 1) listed a w := by
  intro fuel
  induction fuel with
  | zero =>
    intro listed a w _ hr hy hS H
    refine ⟨fun h => (by rw [h] at hr; cases hr), fun j hj => ?_⟩
    by_cases hji : j = i
    · subst hji; exact hy.wpOp hi ⟨hS.mono _, H⟩
    · have := ready_mono hj hji
      rw [H.1] at this
      cases this
  | succ fuel ih =>
    intro listed a w hfree hr hy hS H
    refine ⟨fun h => (by rw [h] at hr; cases hr), fun j hj => ?_⟩
    by_cases hji : j = i
    · subst hji; exact hy.wpOp hi ⟨hS.mono _, H⟩
    · have h1 := H.2 j (ready_mono hj hji)
      obtain ⟨hjun, oj, hoj, hall⟩ := mem_ready.1 hj
      have hnot := unlisted_of_ready hr hall
      have h2 := wpOp_put hoj (hfree j oj hoj hji hjun hnot) (fun cs b => hsel i oi cs b hi) (fun cs b => hsel j oj cs b hoj) hQ hy h1
      have hfree' : ∀ m om, ops[m]? = some om → m ≠ i → (listed.setIfInBounds j true).getD m true = false →
          (∀ e ∈ om.after, Region.binds .any e = true → e.on ≠ i) → oi.apart ops om = true := fun m om hm hmi hun hno => by
        refine hfree m om hm hmi ?_ hno
        by_cases hjm : j = m
        · subst hjm; exact hjun
        · rw [getD_set_ne true hjm] at hun; exact hun
      refine wpOp_mono (fun a' w' h3 => ?_) h2
      obtain ⟨hy', hS', h4⟩ := h3
      have hS2 : St F k (listed.setIfInBounds j true) w' := fun h5 => hS' (by rw [Array.setIfInBounds_comm _ _ (Ne.symm hji), getD_set_ne false hik]; exact h5)
      refine ⟨hS2, ih (listed.setIfInBounds j true) a' w' hfree' (ready_mono hr (Ne.symm hji)) hy' hS2 ?_⟩
      rw [Array.setIfInBounds_comm _ _ hji]
      exact h4

/-- the walk: (i, 0) a call, a store ..; (i, 1) yields under F; (i, 2) yields in whatever world -/
def wpCan (P : Program) (ops : Array Oper) (Q : Exit → Act → World → Prop) (F : World → Prop) (k : Nat) : List (Nat × Nat) → Act → World → Prop
  | [], a, w => Q .normal a w
  | (i, 0) :: rest, a, w => ∃ o, ops[i]? = some o ∧ ((Region.wanted o (yielded ops a.tmps) = false ∧ wpCan P ops Q F k rest (a.put o.dst undef) w) ∨
      wpOp P ops Q i (fun a w => (i = k ∨ F w) ∧ wpCan P ops Q F k rest a w) a w)
  | (i, 1) :: rest, a, w => ∃ o v, ops[i]? = some o ∧ YieldsIf P ops F o v a ∧ wpCan P ops Q F k rest (a.put o.dst v) w
  | (i, _ + 2) :: rest, a, w => ∃ o v, ops[i]? = some o ∧ Yields P ops o v a ∧ wpCan P ops Q F k rest (a.put o.dst v) w
def canB (ops : Array Oper) (k : Nat) : List (Nat × Nat) → Array Bool → Bool
  | [], listed => (Region.ready .any ops listed).isEmpty
  | (i, 0) :: rest, listed => (Region.ready .any ops listed == [i]) && canB ops k rest (listed.setIfInBounds i true) && (!listed.getD k false || rest.all fun x => x.2 == 2) && (i < listed.size)
  | (i, 1) :: rest, listed => (Region.ready .any ops listed).contains i && Region.free .any ops listed i && waits ops k i && !listed.getD k false && canB ops k rest (listed.setIfInBounds i true)
  | (i, _ + 2) :: rest, listed => (Region.ready .any ops listed).contains i && Region.free .any ops listed i && (i != k) && canB ops k rest (listed.setIfInBounds i true)

theorem wpAny_can (hs : Region.noSelect ops = true) (hQ : ∀ c (dst : Option Tmp) v a w, Q (.panic c) (a.put dst v) w → Q (.panic c) a w) :
    ∀ (ord : List (Nat × Nat)) (listed : Array Bool) (a : Act) (w : World), St F k listed w → canB ops k ord listed = true → wpCan P ops Q F k ord a w → wpAnyL P ops Q F k ord.length listed a w
  | [], _, _, _, _, hB, h => ⟨by simpa [canB] using hB, h⟩
  | (i, 0) :: rest, listed, a, w, hw, hB, h => by
    simp only [canB, Bool.and_eq_true, beq_iff_eq, decide_eq_true_eq] at hB
    obtain ⟨⟨⟨hr, hB'⟩, _⟩, hsz⟩ := hB
    obtain ⟨o, ho, h⟩ := h
    refine ⟨fun h0 => (by rw [hr] at h0; cases h0), fun j hj => ?_⟩
    rw [hr, List.mem_singleton] at hj
    subst hj
    rcases h with ⟨hg, h⟩ | h
    · unfold wpOp
      simp only [ho, hg, Bool.false_eq_true, if_false]
      exact ⟨hw.mono _, wpAny_can hs hQ rest _ _ _ (hw.mono _) hB' h⟩
    · refine wpOp_mono (fun a w h1 => ?_) h
      have hS : St F k (listed.setIfInBounds j true) w := fun h5 => by
        rcases h1.1 with rfl | hF
        · simp [hsz] at h5
        · exact hF
      exact ⟨hS, wpAny_can hs hQ rest _ a w hS hB' h1.2⟩
  | (i, 1) :: rest, listed, a, w, hw, hB, h => by
    simp only [canB, Bool.and_eq_true, Bool.not_eq_true'] at hB
    obtain ⟨⟨⟨⟨hr, hf⟩, hk⟩, hkl⟩, hB'⟩ := hB
    obtain ⟨o, v, ho, hy, h⟩ := h
    exact first ho (Region.noSelect_spec hs) (fun c a w => hQ c o.dst v a w) hk rest.length listed a w (Region.free_spec ho hf) (by simpa using hr) hy hkl (hw hkl) (wpAny_can hs hQ rest _ _ _ (hw.mono _) hB' h)
  | (i, _ + 2) :: rest, listed, a, w, hw, hB, h => by
    simp only [canB, Bool.and_eq_true, bne_iff_ne] at hB
    obtain ⟨⟨⟨hr, hf⟩, hik⟩, hB'⟩ := hB
    obtain ⟨o, v, ho, hy, h⟩ := h
    exact firstAll ho (Region.noSelect_spec hs) (fun c a w => hQ c o.dst v a w) hik rest.length listed a w (Region.free_spec ho hf) (by simpa using hr) hy hw (wpAny_can hs hQ rest _ _ _ (hw.mono _) hB' h)

theorem region {id : Nat} {l : List Oper} {a : Act} {w : World} (F : World → Prop) (k : Nat) (ord : List (Nat × Nat)) (hm : P.follows .mixedOrders = true)
    (hB : (Region.noSelect l.toArray && (ord.length == l.length) && canB l.toArray k ord (Array.replicate l.length false)) = true) (hF : F w.drew)
    (h : wpCan P l.toArray (NoPanic Q) F k ord a w.drew) : (Code.region id l.toArray true).wp P Q a w := by
  simp only [Bool.and_eq_true, beq_iff_eq] at hB
  refine wp_region_noPanic (wp_region_any hm ?_)
  have := wpAny_of_L _ _ _ _ (wpAny_can (P := P) (Q := NoPanic Q) (F := F) (k := k) hB.1.1 (fun c dst v a w h => h.elim) ord (Array.replicate l.length false) a w.drew (fun _ => hF) hB.2 h)
  rw [hB.1.2] at this
  simpa using this

variable {i : Nat} {o : Oper} {a : Act} {w : World} {b : Nat} {rest : List (Nat × Nat)}
theorem held (hi : ops[i]? = some o) (hg : Region.wanted o (yielded ops a.tmps) = true) (hv : ∃ v, (∀ w', F w' → (execOp a.eval o).run P w' = .ok (.value v) w') ∧ ∀ K : Act → Prop, (∀ a, wpCan P ops Q F k rest a w → K a) → K (a.put o.dst v)) : wpCan P ops Q F k ((i, 1) :: rest) a w :=
  let ⟨v, hv, h⟩ := hv; ⟨o, v, hi, .inl ⟨hg, hv⟩, h _ fun _ h => h⟩
theorem pur (hi : ops[i]? = some o) (hg : Region.wanted o (yielded ops a.tmps) = true) (hv : ∃ v, (∀ w', (execOp a.eval o).run P w' = .ok (.value v) w') ∧ ∀ K : Act → Prop, (∀ a, wpCan P ops Q F k rest a w → K a) → K (a.put o.dst v)) : wpCan P ops Q F k ((i, 2) :: rest) a w :=
  let ⟨v, hv, h⟩ := hv; ⟨o, v, hi, .inl ⟨hg, hv⟩, h _ fun _ h => h⟩
theorem skip (hi : ops[i]? = some o) (hg : Region.wanted o (yielded ops a.tmps) = false) (h : ∀ K : Act → Prop, (∀ a, wpCan P ops Q F k rest a w → K a) → K (a.put o.dst undef)) : wpCan P ops Q F k ((i, b) :: rest) a w :=
  match b with
  | 0 => ⟨o, hi, .inl ⟨hg, h _ fun _ h => h⟩⟩
  | 1 => ⟨o, undef, hi, .inr ⟨hg, rfl⟩, h _ fun _ h => h⟩
  | _ + 2 => ⟨o, undef, hi, .inr ⟨hg, rfl⟩, h _ fun _ h => h⟩
theorem imp (hi : ops[i]? = some o) (h : ∀ K : Act → World → Prop, Go.RowKit.Hid (∀ a w, F w → wpCan P ops Q F k rest a w → K a w) → if Region.wanted o (yielded ops a.tmps) then o.wp P a w K Q else K (a.put o.dst undef) w) : wpCan P ops Q F k ((i, 0) :: rest) a w := by
  refine ⟨o, hi, .inr ?_⟩
  have := h (fun a w => (i = k ∨ F w) ∧ wpCan P ops Q F k rest a w) (Lib.hid fun _ _ hS h => ⟨.inr hS, h⟩)
  unfold wpOp
  simp only [hi]
  split
  · rename_i hw; rw [if_pos hw] at this; exact .inl this
  · rename_i hw; rw [if_neg hw] at this; exact this
/-- the operation k itself -/
theorem last (hi : ops[k]? = some o) (h : ∀ K : Act → World → Prop, Go.RowKit.Hid (∀ a w, wpCan P ops Q F k rest a w → K a w) → if Region.wanted o (yielded ops a.tmps) then o.wp P a w K Q else K (a.put o.dst undef) w) : wpCan P ops Q F k ((k, 0) :: rest) a w := by
  refine ⟨o, hi, .inr (wpOp_mono (fun a w h => ⟨.inl rfl, h⟩) (K := wpCan P ops Q F k rest) ?_)⟩
  have := h (wpCan P ops Q F k rest) (Lib.hid fun _ _ h => h)
  unfold wpOp
  simp only [hi]
  split
  · rename_i hw; rw [if_pos hw] at this; exact .inl this
  · rename_i hw; rw [if_neg hw] at this; exact this
theorem done (h : Q .normal a w) : wpCan P ops (NoPanic Q) F k [] a w := h
end
end CanL
end Go.Proofs.YtlkcibhdnicpkaaDoor

/- A sum's digits, by the program: plain words and the walk. -/
import Derived.Test.YtlkcibhdnicpkaaDoorBld
namespace Go.Proofs.YtlkcibhdnicpkaaDoor
namespace Hx
open Go.RowKit Ba Sm
set_option linter.unusedVariables false
def hi (c : UInt8) : UInt8 := dg.getD (c.toNat / 16) 0
def lo (c : UInt8) : UInt8 := dg.getD (c.toNat % 16) 0
def hexd (x : List UInt8) : List UInt8 := x.flatMap fun c => [hi c, lo c]
theorem hexd_len (x : List UInt8) : (hexd x).length = 2 * x.length := by
  induction x with
  | nil => rfl
  | cons a l ih => rw [show hexd (a :: l) = hi a :: lo a :: hexd l from rfl, List.length_cons, List.length_cons, ih, List.length_cons]; omega
theorem hexd_app (x y : List UInt8) : hexd (x ++ y) = hexd x ++ hexd y := by simp [hexd]
theorem hexd_step (x : List UInt8) (i : Nat) (h : i < x.length) : hexd (x.take (i + 1)) = hexd (x.take i) ++ [hi (x.getD i 0), lo (x.getD i 0)] := by
  have e : x.take (i + 1) = x.take i ++ [x.getD i 0] := by
    rw [List.take_add_one, List.getElem?_eq_getElem h]; simp [List.getD, List.getElem?_eq_getElem h]
  rw [e, hexd_app]; rfl
theorem dg_get (n : Nat) (h : n < (ByteArray.mk #[48, 49, 50, 51, 52, 53, 54, 55, 56, 57, 97, 98, 99, 100, 101, 102]).size) : (ByteArray.mk #[48, 49, 50, 51, 52, 53, 54, 55, 56, 57, 97, 98, 99, 100, 101, 102])[n]'h = dg.getD n 0 := by
  have : ∀ n : Fin 16, (ByteArray.mk #[48, 49, 50, 51, 52, 53, 54, 55, 56, 57, 97, 98, 99, 100, 101, 102])[n.val]'n.isLt = dg.getD n.val 0 := by decide +kernel
  exact this ⟨n, h⟩
theorem and15 (c : UInt8) : bits .and .u8 (c.toNat : Int) 15 = (c.toNat : Int) % 16 := all_u8 (p := fun c => bits .and .u8 (c.toNat : Int) 15 = (c.toNat : Int) % 16) (by decide +kernel) c
theorem byte1 (bs : List UInt8) (c : UInt8) : Lib.byteCells bs ++ [.int .u8 (c.toNat : Int)] = Lib.byteCells (bs ++ [c]) := by simp [Lib.byteCells]
theorem run_index_agg {P : Program} (t e : TypeId) (n : Nat) (ag : Array Value) (k : Nat) (v : Value) (ht : P.underlying t = some (.array n e)) (he : P.underlying e = some (.int .u8)) (hi : (P.info? e).map (·.size) = some 1) (hk : k < n) (hn : ag.size = n) (hget : ag[k]? = some v) (w : World) :
    (Instr.index t (.agg ag) (.int .i64 (k : Int))).run P w = .ok v w := by
  cases hq : P.info? e with
  | none => simp [hq] at hi
  | some i =>
    have hs : i.size = 1 := by simpa [hq] using hi
    have hagg : (isAgg e).run P w = .ok false w := by
      unfold isAgg
      rw [Sem.run_bind, run_underlying he w]
      rfl
    have h1 : (0 : Int) ≤ (k : Int) ∧ (k : Int) < (n : Int) := by omega
    simp [Instr.index, asIntOf, Sem.run_bind, run_underlying ht, h1, sizeOf, typeInfo, hq, hs, part, hagg, hget]
    omega
set_option maxRecDepth 100000 in
set_option maxHeartbeats 2000000 in
theorem hex_calls (x : List UInt8) (hx : x.length = 32) (w : World) : Calls Tryd.prog 23 #[.agg (bvs x).toArray] w
    fun e w' => e = .returned (.string (S (hexd x))) ∧ Below w.heap.size w w' := by
  have Hx := Lib.hid hx
  clear hx
  go_enter Tryd.func23, Tryd.ntmps23
  go_wp2_with (refine wpList_load_blk rfl 26 (.tmp 1) rfl w.heap.size 0 26 [] (bvs x) [] rfl (by simpa using Blk.alloc (heap_alloc_new _ _) _) rfl _ Tryd.underlying26 rfl (by rw [show (bvs x).length = 32 by simp [bvs, Hx.out]]; kernel_rfl) ?_)
  have hsz : (bvs x).toArray.size = 32 := by simp [bvs, Hx.out]
  obtain ⟨ag, hag⟩ : ∃ ag, ag = (bvs x).toArray := ⟨_, rfl⟩
  rw [← hag] at hsz ⊢
  have Hag := Lib.hid hag
  clear hag
  go_loopg [7] 32 (fun n v wr => ∃ i : Nat, i ≤ 32 ∧ n = 32 - i ∧ v = .int .i64 i ∧ Lib.IsBuilder 78 5 w.heap.size (w.heap.size + 1) (Lib.byteCells (hexd (x.take i))) wr ∧ Below w.heap.size w wr)
  case atStart =>
    refine ⟨0, by omega, rfl, rfl, .inl ?_, ((Below.refl _ _).alloc (Nat.le_refl _) _).alloc (by simp) _⟩
    refine ⟨by omega, .slice none 0 0, ?_, ?_, by simp [Value.ownBlock]⟩
    · have h := heap_alloc_new (w.alloc (.cells ag 26)) (.cells #[.pointer none, .slice none 0 0] 78)
      simpa using h
    · exact ⟨rfl, .inl ⟨rfl, rfl⟩⟩
  case round =>
    obtain ⟨i, hi32, hn, rfl, hB, hbw⟩ := hrel
    have HB := Lib.hid hB
    have Hbw := Lib.hid hbw
    have Hn := Lib.hid hn
    clear hB hbw hn
    by_cases hil : i < 32
    · obtain ⟨c, hc⟩ : ∃ c, c = x.getD i 0 := ⟨_, rfl⟩
      have hgi : ag[i]? = some (.int .u8 (c.toNat : Int)) := by
        rw [Hag.out, List.getElem?_toArray, bvs_get x i (by rw [Hx.out]; exact hil), hc]
      have hix := fun w' => run_index_agg (P := Tryd.prog) 26 5 32 ag i _ Tryd.underlying26 Tryd.underlying5 (by kernel_rfl) hil hsz hgi w'
      clear hgi
      have h16 : (0 : Int) ≤ (c.toNat : Int) / 16 ∧ (c.toNat : Int) / 16 < 16 := by have := c.toNat_lt; omega
      have h15 : (0 : Int) ≤ (c.toNat : Int) % 16 ∧ (c.toNat : Int) % 16 < 16 := by omega
      have ha := and15 c
      have hl : ∀ k, k ≤ 32 → (Lib.byteCells (hexd (x.take k))).length ≤ 64 := by
        intro k hk
        rw [Lib.byteCells_length, hexd_len, List.length_take]; omega
      have Hc := Lib.hid hc
      have Hl := Lib.hid hl
      clear hc hl
      go_wp2_with fail
      simp only [dg_get]
      go_at_call 47
      refine (Bd.write_calls w.heap.size (w.heap.size + 1) _ _ wr HB.out (by have := Hl.out i (by omega); omega) Hbw.out.size).mono ?_
      rintro e w2 ⟨rfl, hB2, hb2⟩
      rw [show dg.getD (c.toNat / 16) 0 = hi c from rfl, byte1] at hB2
      have HB2 := Lib.hid hB2
      have Hb2 := Lib.hid (Hbw.out.trans hb2)
      clear hB2 hb2
      go_wp2_with fail
      simp only [dg_get]
      go_at_call 47
      refine (Bd.write_calls w.heap.size (w.heap.size + 1) _ _ w2 (.inr HB2.out) (by have := Hl.out i (by omega); rw [← byte1, List.length_append, List.length_singleton]; omega) Hb2.out.size).mono ?_
      rintro e w3 ⟨rfl, hB3, hb3⟩
      rw [show dg.getD (c.toNat % 16) 0 = lo c from rfl, byte1] at hB3
      have HB3 := Lib.hid hB3
      have Hb3 := Lib.hid (Hb2.out.trans hb3)
      clear hB3 hb3
      go_wp2_with fail
      go_roundg (32 - (i + 1))
      case rel =>
        refine ⟨i + 1, by omega, rfl, by simp, .inr ?_, Hb3.out⟩
        rw [hexd_step x i (by rw [Hx.out]; exact hil), ← Hc.out]
        simpa using HB3.out
      all_goals (have := Hn.out; omega)
    · have HB' := HB.out
      rw [show i = 32 by omega, show x.take 32 = x by rw [← Hx.out, List.take_length]] at HB'
      have HB2 := Lib.hid HB'
      clear HB'
      go_wp2_with (go_at_call 48; refine (Bd.string_calls w.heap.size (w.heap.size + 1) _ wr HB2.out Hbw.out.size).mono ?_; rintro e w5 ⟨rfl, hb5⟩)
      go_ret
      exact ⟨rfl, Hbw.out.trans hb5⟩
end Hx
end Go.Proofs.YtlkcibhdnicpkaaDoor

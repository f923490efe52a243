/- A fork goes on from what was written: the walk of the statement. -/
import Derived.Test.YtlkcibhdnicpkaaDoorSk
namespace Go.Proofs.YtlkcibhdnicpkaaDoor
namespace Sk
open Go.RowKit Ba Sm Hx
set_option linter.unusedVariables false
theorem ish_blk {w : World} {g : Nat} {l : List UInt8} (h : IsH w g l) : ∃ cs, Blk w g 71 cs := by
  obtain ⟨A, c, h, _⟩ := h
  exact ⟨_, h⟩
theorem ish_below {w w' : World} {g : Nat} {l : List UInt8} (h : IsH w g l) (hb : Below w.heap.size w w') : IsH w' g l := IsG.below h hb
theorem ish_other {w w' : World} {g k : Nat} {l m : List UInt8} (h : IsH w g l) (hg : w.grownBy w' (some k)) (hk : g ≠ k) (h2 : IsH w k m) : IsH w' g l := by
  obtain ⟨cs, hB⟩ := ish_blk h2
  exact IsG.other h hg hk hB (by decide)
/-- the sum of two parts that lie behind the arguments -/
theorem of2_calls (a b : List UInt8) (A1 A2 : Option Addr) (c1 c2 B : Nat) (W : World) (hB : B ≤ W.heap.size) (htab : Tab W) (h1 : ReadB W B A1 a) (h2 : ReadB W B A2 b) (l1 : a.length ≤ c1) (l2 : b.length ≤ c2) (m1 : c1 ≤ 9223372036854775807) (m2 : c2 ≤ 9223372036854775807) (s1 : a.length ≤ 2000) (s2 : b.length ≤ 2000) :
    Calls Tryd.prog 14 #[.slice (some ⟨W.heap.size, 0, none⟩) 2 2] (W.alloc (.cells #[.slice A1 a.length c1, .slice A2 b.length c2] 22)) fun e w' => e = .returned (.agg (bvs (sha (a ++ b))).toArray) ∧ Below W.heap.size W w' := by
  have hbb : ReadBB (W.alloc (.cells #[.slice A1 a.length c1, .slice A2 b.length c2] 22)) (W.heap.size + 1) (some ⟨W.heap.size, 0, none⟩) [a, b] :=
    ReadBB.lit2 W 22 A1 A2 _ c1 _ c2 a b B W.heap.size rfl hB rfl rfl h1 h2 l1 l2 m1 m2
  refine (of_calls [a, b] (some ⟨W.heap.size, 0, none⟩) 2 _ (by simpa using hbb) (htab.below ((Below.refl _ _).alloc (Nat.le_refl _) _)) (by simp) (by omega) (by intro p hp; simp at hp; rcases hp with rfl | rfl <;> omega) (by simp; omega)).mono ?_
  rintro e w' ⟨h, hb⟩
  refine ⟨by simpa using h, ((Below.refl _ _).alloc (Nat.le_refl _) _).trans (hb.mono (by simp))⟩
set_option maxRecDepth 100000 in
set_option maxHeartbeats 2000000 in
theorem shaForks_calls (a b d : List UInt8) (A0 A1 A2 : Option Addr) (c0 c1 c2 : Nat) (l0 : a.length ≤ c0) (m0 : c0 ≤ 9223372036854775807) (l1 : b.length ≤ c1) (m1 : c1 ≤ 9223372036854775807) (l2 : d.length ≤ c2) (m2 : c2 ≤ 9223372036854775807)
    (w : World) (htab : Tab w) (r0 : ReadB w w.heap.size A0 a) (r1 : ReadB w w.heap.size A1 b) (r2 : ReadB w w.heap.size A2 d) :
    Calls Tryd.prog 5 #[.slice A0 a.length c0, .slice A1 b.length c1, .slice A2 d.length c2] w fun e w' => e = .returned (.bool true) ∧ Below w.heap.size w w' := by
  have hw := awake_calls
  have Hw := Lib.hid hw
  have R0 := Lib.hid r0
  have R1 := Lib.hid r1
  have R2 := Lib.hid r2
  have Htab := Lib.hid htab
  clear hw r0 r1 r2 htab
  by_cases hbig : 2000 < a.length ∨ 2000 < b.length ∨ 2000 < d.length
  · by_cases x0 : 2000 < a.length <;> by_cases x1 : 2000 < b.length <;> by_cases x2 : 2000 < d.length
    all_goals first | (exfalso; omega) | skip
    all_goals
      clear hbig
      go_enter Tryd.func5, Tryd.ntmps5
      go_wp2_with (go_at_call 13; refine (Hw.out _ Htab.out).mono ?_; rintro e w5 ⟨rfl, hb5⟩)
      go_ret
      exact ⟨rfl, hb5⟩
  · have x0 : ¬ 2000 < a.length := by omega
    have x1 : ¬ 2000 < b.length := by omega
    have x2 : ¬ 2000 < d.length := by omega
    clear hbig
    go_enter Tryd.func5, Tryd.ntmps5
    go_wp2_with fail
    refine (new_calls w).mono ?_
    rintro e w1 ⟨g, rfl, hg, hI, hb⟩
    have HI1 := Lib.hid hI
    have Hb1 := Lib.hid hb
    have Hgw := Lib.hid hg
    have Hg0 : Hid (0 < g) := Lib.hid (Nat.lt_of_lt_of_le Htab.out.1 hg)
    clear hI hb hg
    go_wp2_with fail
    refine (write_calls w1 g w.heap.size [] a A0 c0 HI1.out Hg0.out (Htab.out.below Hb1.out) (R0.out.below Hb1.out) Hgw.out l0 m0 (by omega) (by simp; omega)).mono ?_
    rintro e w2 ⟨rfl, hI, hg⟩
    rw [List.nil_append] at hI
    have HI2 := Lib.hid hI
    have Hb2 := Lib.hid (Hb1.out.trans (below_of_only hg Hgw.out Hb1.out.size))
    clear hI hg
    go_wp2_with fail
    refine (fork_calls w2 g a HI2.out).mono ?_
    rintro e w3 ⟨f, rfl, hf, hI, hb⟩
    have hgf : g < f := Nat.lt_of_lt_of_le (IsG.lt HI2.out) hf
    have HI3 := Lib.hid (ish_below HI2.out hb)
    have HF3 := Lib.hid hI
    have Hb3 := Lib.hid (bthen Hb2.out hb)
    have Hgf := Lib.hid hgf
    clear hI hb hf hgf
    go_wp2_with fail
    refine (write_calls w3 g w.heap.size a b A1 c1 HI3.out Hg0.out (Htab.out.below Hb3.out) (R1.out.below Hb3.out) Hgw.out l1 m1 (by omega) (by omega)).mono ?_
    rintro e w4 ⟨rfl, hI, hg⟩
    have HI4 := Lib.hid hI
    have HF4 := Lib.hid (ish_other HF3.out hg (by have := Hgf.out; omega) HI3.out)
    have Hb4 := Lib.hid (Hb3.out.trans (below_of_only hg Hgw.out Hb3.out.size))
    clear hI hg
    go_wp2_with fail
    refine (write_calls w4 f w.heap.size a d A2 c2 HF4.out (by have := Hg0.out; have := Hgf.out; omega) (Htab.out.below Hb4.out) (R2.out.below Hb4.out) (by have := Hgw.out; have := Hgf.out; omega) l2 m2 (by omega) (by omega)).mono ?_
    rintro e w5 ⟨rfl, hI, hg⟩
    have HF5 := Lib.hid hI
    have HI5 := Lib.hid (ish_other HI4.out hg (by have := Hgf.out; omega) HF4.out)
    have Hb5 := Lib.hid (Hb4.out.trans (below_of_only hg (by have := Hgw.out; have := Hgf.out; omega) Hb4.out.size))
    clear hI hg
    go_wp2_with fail
    refine (write_nil w5 A0 _ c0).mono ?_
    rintro e w6 ⟨rfl, rfl⟩
    have h1 := hash_len (a ++ b)
    have h2 := hash_len (a ++ d)
    obtain ⟨H1, hH1⟩ : ∃ H1, H1 = sha (a ++ b) := ⟨_, rfl⟩
    obtain ⟨H2, hH2⟩ : ∃ H2, H2 = sha (a ++ d) := ⟨_, rfl⟩
    rw [← hH1] at h1
    rw [← hH2] at h2
    have e1 : ∀ w', (binOp .eql 26 (.agg (bvs H1).toArray) (.agg (bvs H1).toArray)).run Tryd.prog w' = .ok (.bool true) w' := fun w' => by rw [run_eqB H1 H1 h1 h1 w', beq_self_eq_true]
    have e2 : ∀ w', (binOp .eql 26 (.agg (bvs H2).toArray) (.agg (bvs H2).toArray)).run Tryd.prog w' = .ok (.bool true) w' := fun w' => by rw [run_eqB H2 H2 h2 h2 w', beq_self_eq_true]
    have e3 : ∀ w', (binOp .eql 26 (.agg (bvs (List.replicate 32 0)).toArray) (.agg (bvs (List.replicate 32 0)).toArray)).run Tryd.prog w' = .ok (.bool true) w' := fun w' => by rw [run_eqB _ _ rfl rfl w', beq_self_eq_true]
    generalize hz : bvs (List.replicate 32 0) = Z at e3
    have hz2 := rep32
    rw [hz] at hz2
    rw [← hz2] at e3
    have HH1 := Lib.hid hH1
    have HH2 := Lib.hid hH2
    have Hz := Lib.hid hz
    have Hz2 := Lib.hid hz2
    clear hH1 hH2 h1 h2 hz hz2
    go_wp2_with fail
    refine (sum_calls w5 g (a ++ b) HI5.out Hg0.out (Htab.out.below Hb5.out) (by simp; omega)).mono ?_
    rw [← HH1.out]
    rintro e w6 ⟨rfl, hb⟩
    have Hb6 := Lib.hid (bthen Hb5.out hb)
    have HF6 := Lib.hid (ish_below HF5.out hb)
    clear hb
    go_wp2_with fail
    refine (of2_calls a b A0 A1 c0 c1 w.heap.size w6 Hb6.out.size (Htab.out.below Hb6.out) (R0.out.below Hb6.out) (R1.out.below Hb6.out) l0 l1 m0 m1 (by omega) (by omega)).mono ?_
    rw [← HH1.out]
    rintro e w7 ⟨rfl, hb⟩
    have Hb7 := Lib.hid (bthen Hb6.out hb)
    have HF7 := Lib.hid (ish_below HF6.out hb)
    clear hb
    go_wp2_with fail
    refine (sum_calls w7 f (a ++ d) HF7.out (by have := Hg0.out; have := Hgf.out; omega) (Htab.out.below Hb7.out) (by simp; omega)).mono ?_
    rw [← HH2.out]
    rintro e w8 ⟨rfl, hb⟩
    have Hb8 := Lib.hid (bthen Hb7.out hb)
    clear hb
    go_wp2_with fail
    refine (of2_calls a d A0 A2 c0 c2 w.heap.size w8 Hb8.out.size (Htab.out.below Hb8.out) (R0.out.below Hb8.out) (R2.out.below Hb8.out) l0 l2 m0 m2 (by omega) (by omega)).mono ?_
    rw [← HH2.out]
    rintro e w9 ⟨rfl, hb⟩
    have Hb9 := Lib.hid (bthen Hb8.out hb)
    clear hb
    go_wp2_with fail
    refine (sum_nil w9).mono ?_
    rw [Hz.out, ← Hz2.out]
    rintro e w10 ⟨rfl, hb⟩
    have Hb10 := Lib.hid (bthen Hb9.out hb)
    clear hb
    go_wp2_with fail
    refine (len_nil w10).mono ?_
    rintro e w11 ⟨rfl, rfl⟩
    go_wp2_with fail
    refine (fork_nil w10).mono ?_
    rintro e w11 ⟨rfl, rfl⟩
    go_wp2_with fail
    refine (Hw.out w10 (Htab.out.below Hb10.out)).mono ?_
    rintro e w11 ⟨rfl, hb⟩
    have Hb11 := Lib.hid (bthen Hb10.out hb)
    clear hb
    go_wp2
    go_ret
    exact ⟨rfl, Hb11.out⟩
end Sk
end Go.Proofs.YtlkcibhdnicpkaaDoor

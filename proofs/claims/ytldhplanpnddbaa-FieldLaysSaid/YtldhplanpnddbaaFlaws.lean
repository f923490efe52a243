/- The walks of the statements on numbers and texts, one behind the other. -/
import Derived.Test.YtldhplanpnddbaaReader2
import Derived.Test.YtldhplanpnddbaaFref2
namespace Go.Proofs.Ytldhplanpnddbaa
namespace Fl
open Go.RowKit Ba Vm Fm Vi
set_option linter.unusedVariables false

theorem strof_rule (W : World) (A : Option Addr) (c : Nat) (l : List UInt8) (h : ReadB W W.heap.size A l) : (convert 25 9 (.slice A l.length c)).run Try.prog W = .ok (.string (S l)) W :=
  run_strof W 25 5 Try.underlying25 Try.underlying5 A c _ l h 9 Try.underlying9
theorem num5 : num 5 = [5] := by decide +kernel
theorem textab : text [97, 98] = [2, 97, 98] := by decide +kernel
theorem r1 : (Rd.mk [5, 2, 97, 98] 0).num 9 = (⟨[2, 97, 98], 0⟩, 5) := by rfl
theorem r2 : (Rd.mk [2, 97, 98] 0).text 9 = (⟨[], 0⟩, [97, 98]) := by rfl
theorem r3 : (Rd.mk [2, 97, 98] 0).text 1 = (⟨[2, 97, 98], 5⟩, []) := by rfl
theorem r4 : (Rd.mk [] 0).done = 0 := by rfl

set_option maxHeartbeats 1600000 in
theorem awake2_calls (w : World) : Calls Try.prog 25 #[] w fun e w' => e = .returned (.bool true) ∧ Below w.heap.size w w' := by
  go_enter Try.func25, Try.ntmps25
  go_wp2_with fail
  refine (Fi.num_calls 5 (by omega) _).mono ?_
  rw [num5]
  rintro e w1 ⟨v1, rfl, ho1, hb1⟩
  obtain ⟨A1, c1, rfl, hl1, hm1, hr1, _⟩ := ho1.opens
  go_wp2_with fail
  refine (Fi.text_calls [97, 98] (by simp) _).mono ?_
  rw [textab]
  rintro e w2 ⟨v2, rfl, ho2, hb2⟩
  obtain ⟨A2, c2, rfl, hl2, hm2, hr2, _⟩ := ho2.opens
  have k1 := (hr1.below hb2).more hb2.size
  go_wp2_with fail
  refine (Fi.join_calls [[5], [2, 97, 98]] _ 2 _ ((ReadBB.lit2 w2 _ A1 A2 1 c1 3 c2 [5] [2, 97, 98] w2.heap.size _ rfl (Nat.le_refl _) rfl rfl k1 hr2 hl1 hl2 hm1 hm2).more (by simp)) (by simp) (by simp [Fi.sumLen])).mono ?_
  rintro e w3 ⟨v3, rfl, ho3, hb3⟩
  obtain ⟨A3, c3, rfl, hl3, hm3, hr3, _⟩ := ho3.opens
  have h03 : Below w.heap.size w w3 := bthen (bthen hb1 hb2) ((Below.alloc (Below.refl _ _) (Nat.le_refl _) _).trans (hb3.mono (by simp)))
  have H03 := Lib.hid h03
  clear hb1 hb2 hb3 h03
  go_wp2_with fail
  refine (Re.new_calls [5, 2, 97, 98] A3 c3 _ hr3 hl3 hm3).mono ?_
  rintro e w4 ⟨rfl, hr4, hb4⟩
  go_wp2_with fail
  refine (Re.num_calls _ _ _ 9 _ hr4).mono ?_
  rw [r1]
  rintro e w5 ⟨rfl, hr5, hg5⟩
  go_wp2_with fail
  refine (Re.text_calls _ _ _ 9 _ hr5).mono ?_
  rw [r2]
  rintro e w6 ⟨rfl, hr6, hg6⟩
  have h36 : Below w3.heap.size w3 w6 := (hb4.trans (below_of_only hg5 (Nat.le_refl _) hb4.size)).trans (below_of_only hg6 (Nat.le_refl _) (Nat.le_trans hb4.size hg5.size))
  have k3 : ReadB w6 w6.heap.size A3 [5, 2, 97, 98] := (hr3.below h36).more h36.size
  have H36 := Lib.hid h36
  generalize hgr : w3.heap.size = gr at *
  have Hgr := Lib.hid hgr
  clear hb4 hg5 hg6 h36 hr4 hr5 hgr
  go_wp2_with fail
  refine (Re.new_at [2, 97, 98] _ 3 _ (w6.heap.size + 1) (by simp) (ReadB.litN w6 _ _ [2, 97, 98] _ rfl rfl) (by simp) (by omega)).mono ?_
  rintro e w7 ⟨rfl, hr7, hb7⟩
  go_wp2_with fail
  refine (Re.text_calls _ _ _ 1 _ hr7).mono ?_
  rw [r3]
  rintro e w8 ⟨rfl, hr8, hg8⟩
  go_wp2_with fail
  have h68 : Below w6.heap.size w6 w8 := ((Below.refl _ _).alloc (Nat.le_refl _) _).trans ((hb7.mono (by simp)).trans (below_of_only hg8 (by omega) (by have := hb7.size; simp at this; omega)))
  have k8 : ReadB w8 w8.heap.size A3 [5, 2, 97, 98] := (k3.below h68).more h68.size
  have hst : (convert 25 9 (.slice A3 4 c3)).run Try.prog w8 = .ok (.string ⟨#[5, 2, 97, 98]⟩) w8 := strof_rule w8 A3 c3 [5, 2, 97, 98] k8
  have hr9 := hr6.below h68
  have H68 := Lib.hid h68
  clear h68 hb7 hg8
  rw [hst]
  go_wp2_with (first
    | (go_at_call 43; (first | (with_reducible refine (Re.done_calls _ _ _ _ hr9).mono ?_; rintro e w9 ⟨rfl, rfl⟩) | (with_reducible refine (Re.nil_done _).mono ?_; rintro e w9 ⟨rfl, rfl⟩)))
    | (go_at_call 42; (first | (with_reducible refine (Re.err_calls _ _ _ _ hr8).mono ?_; rintro e w9 ⟨rfl, rfl⟩) | (with_reducible refine (Re.nil_err _).mono ?_; rintro e w9 ⟨rfl, rfl⟩)))
    | (go_at_call 41; (first | (with_reducible refine (Re.left_calls _ _ _ _ hr8).mono ?_; rintro e w9 ⟨rfl, rfl⟩) | (with_reducible refine (Re.nil_left _).mono ?_; rintro e w9 ⟨rfl, rfl⟩)))
    | (go_at_call 34; refine (Re.nil_num _ _).mono ?_; rintro e w9 ⟨rfl, rfl⟩)
    | (go_at_call 36; refine (Re.nil_text _ _).mono ?_; rintro e w9 ⟨rfl, rfl⟩)
    | (go_at_call 38; refine (Re.nil_raw _ _).mono ?_; rintro e w9 ⟨rfl, rfl⟩)
    | (go_at_call 40; refine (Re.nil_byte _).mono ?_; rintro e w9 ⟨rfl, rfl⟩))
  go_ret
  refine ⟨rfl, ?_⟩
  have e := Hgr.out
  have b3 := H36.out
  rw [← e] at b3
  exact bthen (bthen H03.out b3) H68.out
end Fl
end Go.Proofs.Ytldhplanpnddbaa

/- The walk of the statement that a text that is cut off anywhere is none. -/
import Derived.Test.YtldhplanpnddbaaFlaws
import Derived.Test.YtldhplanpnddbaaCan
namespace Go.Proofs.Ytldhplanpnddbaa
namespace Fl
open Go.RowKit Ba Vm Fm Vi
set_option linter.unusedVariables false

theorem text_pos (r : List UInt8) (h : r.length < 4611686018427387904) : 1 ≤ (text r).length := by
  have := num_pos r.length h
  unfold Fm.text
  rw [List.length_append]; omega
theorem text_len (r : List UInt8) : (text r).length ≤ r.length + 8 := by
  have := num_len r.length
  unfold Fm.text
  rw [List.length_append]; omega

set_option maxHeartbeats 1600000 in
theorem cuts_calls (r : List UInt8) (hr : r.length ≤ 140737488351232) (cut : Int) (h0 : 0 ≤ cut) (h1 : cut ≤ 65535) (w : World) : Calls Try.prog 13 #[.string (S r), .int .u16 cut] w fun e w' => e = .returned (.bool true) ∧ Below w.heap.size w w' := by
  have fin : ∀ W, Below w.heap.size w W → Calls Try.prog 25 #[] W fun e w' => e = .returned (.bool true) ∧ Below w.heap.size w w' := fun W hW => (awake2_calls W).mono fun e w' ⟨h1, h2⟩ => ⟨h1, bthen hW h2⟩
  have Hf := Lib.hid fin
  clear fin
  by_cases hs : 1000 < r.length
  · go_enter Try.func13, Try.ntmps13
    go_wp2_with (go_at_call 25; refine (Hf.out _ (Below.refl _ _)).mono ?_; rintro e w5 ⟨rfl, hb5⟩)
    go_ret
    exact ⟨rfl, hb5⟩
  · have hL1 := text_pos r (by omega)
    have hL2 := text_len r
    have Hcut := Lib.hid (fun k (hk : k < (text r).length) => tx_cut r k 1000 (by omega) (by omega) hk)
    obtain ⟨L, hL⟩ : ∃ x, x = text r := ⟨_, rfl⟩
    rw [← hL] at hL1 hL2 Hcut
    obtain ⟨k, hk⟩ : ∃ k, k = cut.toNat % L.length := ⟨_, rfl⟩
    have hkL : k < L.length := by rw [hk]; exact Nat.mod_lt _ (by omega)
    have hrem : (cut : Int).tmod (L.length : Int) = (k : Int) := by rw [Int.tmod_eq_emod_of_nonneg h0, hk, Int.natCast_emod, Int.toNat_of_nonneg h0]
    have HL := Lib.hid hL
    have Hk := Lib.hid hk
    clear hL hk
    go_enter Try.func13, Try.ntmps13
    go_wp2_with fail
    refine (Fi.text_calls r hr _).mono ?_
    rw [← HL.out]
    rintro e w1 ⟨v1, rfl, ho1, hb1⟩
    obtain ⟨A1, c1, rfl, hl1, hm1, hr1, _⟩ := ho1.opens
    obtain ⟨m, hm⟩ : ∃ m, L.length = m := ⟨_, rfl⟩
    have hm0 : ¬ m = 0 := by omega
    have hn := Re.new_calls (L.take k) A1 c1 w1 (hr1.take k) (by rw [List.length_take]; omega) hm1
    rw [List.length_take, Nat.min_eq_left (Nat.le_of_lt hkL)] at hn
    have Hn := Lib.hid hn
    rw [hm] at hrem ⊢
    have Hm := Lib.hid hm
    rw [hm] at hkL hL1 hL2 hl1
    clear hm
    clear hn
    go_wp2_with fail
    refine Hn.out.mono ?_
    rintro e w2 ⟨rfl, hr2, hb2⟩
    go_wp2_with fail
    have h3 : (Rd.mk (L.take k) 0).text 1000 = (⟨L.take k, 3⟩, []) := Hcut.out k (by rw [Hm.out]; exact hkL)
    have hlen : (L.take k).length = k := by rw [List.length_take, Hm.out]; omega
    have H2 := Lib.hid (show Below w.heap.size w w2.drew from (bthen hb1 hb2).drew)
    have hlt : w1.heap.size < w2.heap.size := hr2.lt
    have Hs := Lib.hid hb1.size
    have hr2 : Re.IsR w2.drew _ _ _ := hr2
    have h64 : IntKind.i64.wrap cut = cut := IntWalk.i64_in _ (by omega)
    refine Can.region [(0, true), (1, false), (2, true), (3, true), (4, true), (5, false), (6, true), (7, true), (8, true), (9, true), (11, true), (12, true), (13, true), (14, true), (15, true), (10, false), (16, true), (17, true), (18, true), (19, false), (20, true), (21, true)] (by kernel_rfl) (by kernel_rfl) ?_
    generalize hD : w2.drew = W2 at *
    clear hb1 hb2 hr1 ho1 Hn hD
    repeat (first | (refine Can.pur rfl (by go_simp; done) ?_; refine ⟨?_, ?_, ?_⟩; rotate_left; (focus (intro w'; go_simp; rfl)); (focus (intro K hK; go_simp; refine hK _ ?_; clear hK K))) | (refine Can.skip rfl (by go_simp; done) (fun K hK => ?_); go_simp; refine hK _ ?_; clear hK K) | (refine Can.imp rfl (fun K hK => ?_); go_simp; first | (refine hK _ _ ?_; clear hK K) | ((first | (go_at_call 36; refine (Re.text_calls _ _ _ 1000 _ hr2).mono ?_; rw [h3]; rintro e w3 ⟨rfl, hr3, hg3⟩; have H3 := Lib.hid (H2.out.trans (below_of_only hg3 Hs.out H2.out.size)); clear hg3) | (go_at_call 42; refine (Re.err_calls _ _ _ _ hr3).mono ?_; rintro e w9 ⟨rfl, rfl⟩) | (go_at_call 41; refine (Re.left_calls _ _ _ _ hr3).mono ?_; rintro e w9 ⟨rfl, rfl⟩) | (go_at_call 25; refine (Hf.out _ H3.out).mono ?_; rintro e w5 ⟨rfl, hb5⟩)); go_simp; refine hK _ _ ?_; clear hK K)))
    refine Can.done ?_
    go_wp2
    go_ret
    exact ⟨rfl, hb5⟩
theorem cuts_str (s : ByteArray) (hs : s.size ≤ 140737488351232) (cut : Int) (h0 : 0 ≤ cut) (h1 : cut ≤ 65535) (w : World) : Calls Try.prog 13 #[.string s, .int .u16 cut] w fun e w' => e = .returned (.bool true) ∧ Below w.heap.size w w' := by
  have := cuts_calls s.data.toList (by rw [Array.length_toList]; exact hs) cut h0 h1 w
  rwa [S_data] at this
end Fl
end Go.Proofs.Ytldhplanpnddbaa

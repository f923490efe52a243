/- The walk of the statement that a number above the most, and a text that is longer, are refused. -/
import Derived.Test.YtldhplanpnddbaaFlaws
namespace Go.Proofs.Ytldhplanpnddbaa
namespace Fl
open Go.RowKit Ba Vm Fm Vi
set_option linter.unusedVariables false

theorem nmore (n : Nat) (h : n < 4611686018427387904) (h1 : 1 ≤ n) : (Rd.mk (Fm.num (n : Int)) 0).num ((n : Int) - 1) = (⟨Fm.num (n : Int), 5⟩, 0) := by
  have := nm_more n [] ((n : Int) - 1) (by omega) h
  rwa [List.append_nil] at this
theorem tmore (r : List UInt8) (h : r.length < 4611686018427387904) : (Rd.mk (Fm.text r) 0).text ((r.length : Int) - 1) = (⟨Fm.text r, 5⟩, []) := by
  have := tx_more r [] ((r.length : Int) - 1) (by omega) h
  rwa [List.append_nil] at this
theorem badbyte (L : List UInt8) : (Rd.mk L 5).byte = (⟨L, 5⟩, 0) := rfl

/-- a reader over a row that lies at lo or behind -/
theorem new_row (l : List UInt8) (A : Option Addr) (c : Nat) (w : World) (h : ReadB w w.heap.size A l) (hlc : l.length ≤ c) (hcm : c ≤ 9223372036854775807) :
    Calls Try.prog 32 #[.slice A l.length c] w fun e w' => e = .returned (.pointer (some ⟨w.heap.size, 0, none⟩)) ∧ w'.heap[w.heap.size]? = some (.cells #[.slice A l.length c, .int .i64 0] 75 (0, 0)) ∧ Below w.heap.size w w' := by
  go_enter Try.func32, Try.ntmps32
  go_wp2
  go_ret
  exact ⟨rfl, heap_alloc_new w _, (Below.refl _ _).alloc (Nat.le_refl _) _⟩

set_option maxHeartbeats 1600000 in
theorem bnds_calls (n : Int) (hn : n ≤ 9223372036854775807) (r : List UInt8) (hr : r.length ≤ 140737488351232) (w : World) : Calls Try.prog 12 #[.int .i64 n, .string (S r)] w fun e w' => e = .returned (.bool true) ∧ Below w.heap.size w w' := by
  have fin : ∀ W, Below w.heap.size w W → Calls Try.prog 25 #[] W fun e w' => e = .returned (.bool true) ∧ Below w.heap.size w w' := fun W hW => (awake2_calls W).mono fun e w' ⟨h1, h2⟩ => ⟨h1, bthen hW h2⟩
  have Hf := Lib.hid fin
  clear fin
  by_cases hs : n < 1 ∨ 4611686018427387903 < n ∨ 1000 < r.length ∨ r.length < 1
  · go_enter Try.func12, Try.ntmps12
    by_cases h1 : n < 1
    · clear hs
      go_wp2_with (go_at_call 25; refine (Hf.out _ (Below.refl _ _)).mono ?_; rintro e w5 ⟨rfl, hb5⟩)
      go_ret
      exact ⟨rfl, hb5⟩
    · by_cases h2 : 4611686018427387903 < n
      · clear hs
        go_wp2_with (go_at_call 25; refine (Hf.out _ (Below.refl _ _)).mono ?_; rintro e w5 ⟨rfl, hb5⟩)
        go_ret
        exact ⟨rfl, hb5⟩
      · by_cases h3 : 1000 < r.length
        · clear hs
          go_wp2_with (go_at_call 25; refine (Hf.out _ (Below.refl _ _)).mono ?_; rintro e w5 ⟨rfl, hb5⟩)
          go_ret
          exact ⟨rfl, hb5⟩
        · have h4 : r.length < 1 := by omega
          clear hs
          go_wp2_with (go_at_call 25; refine (Hf.out _ (Below.refl _ _)).mono ?_; rintro e w5 ⟨rfl, hb5⟩)
          go_ret
          exact ⟨rfl, hb5⟩
  · obtain ⟨n, rfl⟩ : ∃ k : Nat, n = (k : Int) := ⟨n.toNat, by omega⟩
    have hn1 : 1 ≤ n := by omega
    have hn2 : n ≤ 4611686018427387903 := by omega
    have hr1 : 1 ≤ r.length := by omega
    have hr2 : r.length ≤ 1000 := by omega
    clear hs
    have hA := Lib.hid (nmore n (by omega) hn1)
    have hB := Lib.hid (tmore r (by omega))
    obtain ⟨LA, hLA⟩ : ∃ x, x = Fm.num (n : Int) := ⟨_, rfl⟩
    obtain ⟨LB, hLB⟩ : ∃ x, x = Fm.text r := ⟨_, rfl⟩
    rw [← hLA] at hA
    rw [← hLB] at hB
    have HLA := Lib.hid hLA
    have HLB := Lib.hid hLB
    clear hLA hLB
    go_enter Try.func12, Try.ntmps12
    go_wp2_with fail
    refine (Fi.num_calls n hn _).mono ?_
    rw [← HLA.out]
    rintro e w1 ⟨v1, rfl, ho1, hb1⟩
    obtain ⟨A1, c1, rfl, hl1, hm1, k1, _⟩ := ho1.opens
    go_wp2_with fail
    refine (Re.new_calls LA A1 c1 w1 k1 hl1 hm1).mono ?_
    rintro e w2 ⟨rfl, ra, hb2⟩
    go_wp2_with fail
    refine (Fi.text_calls r hr _).mono ?_
    rw [← HLB.out]
    rintro e w3 ⟨v3, rfl, ho3, hb3⟩
    obtain ⟨A3, c3, rfl, hl3, hm3, k3, hlo⟩ := ho3.opens
    go_wp2_with fail
    refine (new_row LB A3 c3 w3 k3 hl3 hm3).mono ?_
    rintro e w4 ⟨rfl, hh4, hb4⟩
    have ra4 := (ra.below hb3).below hb4
    have hlt1 := ra.lt
    have hlt3 : w1.heap.size < w3.heap.size := Nat.lt_of_lt_of_le ra.lt hb3.size
    have k4 := k3.below hb4
    have H12 := Lib.hid (bthen hb1 hb2)
    have H34 := Lib.hid (hb3.trans (hb4.mono hb3.size))
    have Hs := Lib.hid hb1.size
    have Hs4 := Lib.hid hb4.size
    clear hb1 hb2 hb3 hb4 ra k1 k3 ho1 ho3
    go_wp2_with fail
    refine (Re.num_calls _ _ _ ((n : Int) - 1) w4 ra4).mono ?_
    rw [hA.out]
    rintro e w5 ⟨rfl, ra5, hg5⟩
    have rb5 : Re.IsR w5 w3.heap.size w3.heap.size ⟨LB, 0⟩ := by
      have hlt : w3.heap.size < w4.heap.size := by
        rcases Nat.lt_or_ge w3.heap.size w4.heap.size with h | h
        · exact h
        · rw [Array.getElem?_eq_none h] at hh4; cases hh4
      refine ⟨A3, c3, (hg5.block _ hlt (by simp; omega)).trans hh4, hl3, hm3, fun hp => ?_, Nat.le_refl _⟩
      obtain ⟨b, o, rfl, hb, hc⟩ := k4 hp
      refine ⟨b, o, rfl, hb, fun k hk => ?_⟩
      have := hlo _ rfl
      exact hg5.cell (hc k hk) (by simp; simp at this; omega)
    have H45 := Lib.hid (below_of_only hg5 (Nat.le_refl _) (Nat.le_of_lt ra4.lt))
    clear hg5 ra4 hh4 k4
    have Hs5 := Lib.hid H45.out.size
    go_wp2_with fail
    refine (Re.text_calls _ _ _ ((r.length : Int) - 1) w5 rb5).mono ?_
    rw [hB.out]
    rintro e w6 ⟨rfl, rb6, hg6⟩
    have ra6 := ra5.other hg6 hlt3
    have HB := Lib.hid (((H12.out.trans (H34.out.mono H12.out.size)).trans (H45.out.mono Hs.out)).trans (below_of_only hg6 (Nat.le_trans Hs.out (Nat.le_of_lt hlt3)) (Nat.le_trans H12.out.size (Nat.le_trans H34.out.size H45.out.size))))
    clear hg6 ra5 rb5
    go_wp2_with (first
      | (go_at_call 42; (first | (with_reducible refine (Re.err_calls _ _ _ _ ra6).mono ?_; rintro e w9 ⟨rfl, rfl⟩) | (with_reducible refine (Re.err_calls _ _ _ _ rb7).mono ?_; rintro e w9 ⟨rfl, rfl⟩)))
      | (go_at_call 41; (first | (with_reducible refine (Re.left_calls _ _ _ _ ra6).mono ?_; rintro e w9 ⟨rfl, rfl⟩) | (with_reducible refine (Re.left_calls _ _ _ _ rb7).mono ?_; rintro e w9 ⟨rfl, rfl⟩)))
      | (go_at_call 28; refine (Fi.num_calls n hn _).mono ?_; rw [← HLA.out]; rintro e w7 ⟨v7, rfl, ho7, hb7⟩; obtain ⟨A7, c7, rfl, hl7, hm7, k7, _⟩ := ho7.opens; have rb7 := rb6.below hb7; have H7 := Lib.hid (bthen HB.out hb7); clear ho7 k7 hb7)
      | (go_at_call 26; refine (Fi.text_calls r hr _).mono ?_; rw [← HLB.out]; rintro e w8 ⟨v8, rfl, ho8, hb8⟩; obtain ⟨A8, c8, rfl, hl8, hm8, k8, _⟩ := ho8.opens; have rb8 := rb7.below hb8; have H8 := Lib.hid (bthen H7.out hb8); clear ho8 k8 hb8)
      | (go_at_call 40; refine (Re.byte_calls _ _ _ _ rb8).mono ?_; rw [badbyte]; rintro e w9 ⟨rfl, rb9, hg9⟩; have H9 := Lib.hid (H8.out.trans (below_of_only hg9 (Nat.le_trans Hs.out (Nat.le_of_lt hlt3)) H8.out.size)))
      | (go_at_call 25; refine (Hf.out _ H9.out).mono ?_; rintro e w5 ⟨rfl, hb5⟩))
    go_ret
    exact ⟨rfl, hb5⟩
theorem bnds_str (n : Int) (hn : n ≤ 9223372036854775807) (s : ByteArray) (hs : s.size ≤ 140737488351232) (w : World) : Calls Try.prog 12 #[.int .i64 n, .string s] w fun e w' => e = .returned (.bool true) ∧ Below w.heap.size w w' := by
  have := bnds_calls n hn s.data.toList (by rw [Array.length_toList]; exact hs) w
  rwa [S_data] at this
end Fl
end Go.Proofs.Ytldhplanpnddbaa

/- Join once more: as much as Go's own bound lets in (the first walk stops at the half of it). -/
import Derived.Test.YtldhplanpnddbaaField
import Derived.Laws.OwnMore
namespace Go.Proofs.Ytldhplanpnddbaa
namespace Fi
open Go.RowKit Ba Vm Fm Vi
set_option linter.unusedVariables false

theorem run_appF {P : Program} (w : World) (base : Nat) (t ty e : TypeId) (i : TypeInfo) (ht : P.underlying t = some (.slice e)) (hi : IsByte P e i)
    (g cap : Nat) (l : List UInt8) (hown : OwnB w base e (.slice (some ⟨g, 0, none⟩) l.length cap) l)
    (B : Nat) (A : Option Addr) (c : Nat) (r : List UInt8) (hr : ReadB w B A r) (hroom : l.length + r.length ≤ cap) :
    ∃ w', (Builtin.append_ #[t, t] ty #[.slice (some ⟨g, 0, none⟩) l.length cap, .slice A r.length c]).run P w = .ok (.slice (some ⟨g, 0, none⟩) (l.length + r.length) cap) w' ∧
      OwnB w' base e (.slice (some ⟨g, 0, none⟩) (l.length + r.length) cap) (l ++ r) ∧ w.grownBy w' (some g) := by
  have e1 : ∀ w' v, OwnB w' base e v (l ++ r) = w'.ownsRow base e 1 v (l.length + r.length) (bvs l ++ bvs r) := fun w' v => by
    unfold OwnB; rw [List.length_append, bvs_append]
  simp only [e1]
  cases A with
  | none =>
    have hr0 : r = [] := by
      rcases Nat.lt_or_ge 0 r.length with h | h
      · obtain ⟨b, o, h, _⟩ := hr h; cases h
      · exact List.eq_nil_of_length_eq_zero (by omega)
    subst hr0
    have hnc : l.length ≤ cap := by omega
    refine ⟨w, ?_, ?_, .refl _ _⟩
    · simp [Builtin.append_, run_underlying ht, sizeOf, typeInfo, hi.1, Builtin.lenOf, Builtin.firstCells, hnc, storeCells]
    · have : bvs ([] : List UInt8) = [] := rfl
      rw [this, List.append_nil]; exact hown
  | some a =>
    refine run_append_fits (P := P) w base t ty e i 1 ht hi.1 hi.2.2.1 g l.length cap (bvs l) hown a r.length c (bvs r) (by simp [bvs]) ?_ (bvs_one r) hroom
    intro j u hj
    have hjl : j < r.length := by
      have := (List.getElem?_eq_some_iff.1 hj).1
      simpa [bvs] using this
    obtain ⟨b, o, h, _, hc⟩ := hr (by omega)
    injection h with h
    subst h
    rw [add_lit_, hc j hjl, ← bvs_get r j hjl]
    exact hj

set_option maxHeartbeats 400000 in
theorem grow2_calls (n : Nat) (hn0 : 0 < n) (hn : n ≤ 281474976710656) (w : World) : Calls Try.prog 54 #[.slice none 0 0, .int .i64 (n : Int)] w
    fun e w' => ∃ g cap, e = .returned (.slice (some ⟨g, 0, none⟩) 0 cap) ∧ n ≤ cap ∧ OwnB w' w.heap.size 5 (.slice (some ⟨g, 0, none⟩) 0 cap) [] ∧ Below w.heap.size w w' := by
  obtain ⟨i0, hi0⟩ := isByte_of info5
  have Hi := Lib.hid hi0
  clear hi0
  go_enter Try.func54, Try.ntmps54
  go_wp2_with (at_builtin; go_loud (refine Lib.wpList_append_run _ rfl (.tmp 20) (.tmp 21) 25 3 rfl _ _ rfl rfl _ _ (Lib.run_append_nil_zeros (P := Try.prog) _ 25 3 _ 5 i0 (.int .u8 0) .i64 .i64 Try.underlying25 Try.underlying3 Hi.out.1 Hi.out.2.1 n (by omega) (by rw [Hi.out.2.2.1]; omega) (by omega) (by rw [Hi.out.2.2.2]; omega)) ?_))
  go_ret
  have hge := grownCap_ge w n 0 5
  have hcm : grownCap w n 0 5 ≤ maxLen := grownCap_le_maxLen w n 0 5 (by unfold maxLen; omega)
  refine ⟨_, _, rfl, hge, ⟨rfl, .inr ⟨w.heap.size, grownCap w n 0 5, _, rfl, Nat.le_refl _, heap_alloc_new w.drew _, Nat.zero_le _, hcm, ?_, by simp [bvs]⟩⟩, ?_⟩
  · have hz1 : (#[Value.int IntKind.u8 0] : Array Value).size = 1 := rfl
    rw [Array.size_append, size_zeroCells, size_zeroCells, hz1]
    omega
  · exact ((Below.refl _ _).drew).alloc (Nat.le_refl _) _

set_option maxHeartbeats 800000 in
theorem concat2_calls (ps : List (List UInt8)) (A : Option Addr) (c : Nat) (w : World) (h : ReadBB w w.heap.size A ps) (hps : ps.length ≤ 140737488351232) (hsum0 : 0 < sumLen ps) (hsum : sumLen ps ≤ 281474976710656) :
    Calls Try.prog 50 #[.slice A ps.length c] w
    fun e w' => ∃ v, e = .returned v ∧ OwnB w' w.heap.size 5 v ps.flatten ∧ Below w.heap.size w w' := by
  obtain ⟨i0, hi0⟩ := isByte_of info5
  have Hi := Lib.hid hi0
  clear hi0
  go_enter Try.func50, Try.ntmps50
  go_wp2_with fail
  go_loop [3, 11] (fun z i => ∃ k : Nat, k ≤ ps.length ∧ i = .int .i64 k ∧ z = .int .i64 (sumLen (ps.take k))) (fun _ i => ps.length - (intOf i).toNat)
  case atStart => exact ⟨0, Nat.zero_le _, rfl, rfl⟩
  case round =>
    obtain ⟨k, hk, rfl, rfl⟩ := hrel
    by_cases hkl : k < ps.length
    · obtain ⟨b, o, rfl, hb, hc⟩ := h (by omega)
      obtain ⟨Ak, ck, h1, h2, h3, h4⟩ := hc k hkl
      have Hc := Lib.hid hc
      have Hh := Lib.hid h
      have hst := sumLen_take ps k hkl
      have hle := sumLen_take_le ps (k + 1)
      clear hc h
      obtain ⟨p, hp⟩ : ∃ p, p = ps.getD k [] := ⟨_, rfl⟩
      rw [← hp] at h1 h2 h4 hst
      rw [hst] at hle
      have Hst := Lib.hid hst
      clear hp hst
      generalize sumLen (ps.take k) = s1 at Hst hle
      go_wp2
      all_goals
        refine ⟨⟨k + 1, by omega, by go_num, by rw [Hst.out]; go_num⟩, by simp [intOf]; omega⟩
    · have hke : k = ps.length := by omega
      subst hke
      have Ht : Hid (sumLen (ps.take ps.length) = sumLen ps) := by show _ = _; rw [List.take_length]
      have hsn : 0 ≤ (sumLen ps : Int) := by omega
      rw [Ht.out]
      clear hkl
      have Hh := Lib.hid h
      clear h
      go_wp2_with (go_at_call 54; go_must (refine (grow2_calls (sumLen ps) hsum0 hsum _).mono ?_); rintro e w1 ⟨g1, cap, rfl, hcap, ho1, hb1⟩)
      have h1 := Hh.out.below hb1
      have Ho1 := Lib.hid ho1
      have Hb1 := Lib.hid hb1
      have Hcap := Lib.hid hcap
      clear ho1 hb1 hcap
      go_loopw [6, 27] (fun s i wr => ∃ k : Nat, k ≤ ps.length ∧ i = .int .i64 k ∧ s = .slice (some ⟨g1, 0, none⟩) (ps.take k).flatten.length cap ∧ OwnB wr w.heap.size 5 (.slice (some ⟨g1, 0, none⟩) (ps.take k).flatten.length cap) ((ps.take k).flatten) ∧ Below w.heap.size w wr) (fun _ i _ => ps.length - (intOf i).toNat)
      case atStart => exact ⟨0, Nat.zero_le _, rfl, rfl, Ho1.out, Hb1.out⟩
      case round =>
        obtain ⟨k, hk, rfl, rfl, hok, hbk⟩ := hrel
        have hl1 := flatten_len (ps.take k)
        by_cases hkl : k < ps.length
        · obtain ⟨b, o, rfl, hb, hc⟩ := Hh.out.below hbk (by omega)
          obtain ⟨Ak, ck, h1, h2, h3, h4⟩ := hc k hkl
          have Hc := Lib.hid hc
          have hst := sumLen_take ps k hkl
          have hle := sumLen_take_le ps (k + 1)
          have hfl := flatten_take ps k hkl
          clear hc
          obtain ⟨p, hp⟩ : ∃ p, p = ps.getD k [] := ⟨_, rfl⟩
          rw [← hp] at h1 h2 h4 hst hfl
          rw [hst, ← hl1] at hle
          obtain ⟨L, hL⟩ : ∃ L, L = (ps.take k).flatten := ⟨_, rfl⟩
          rw [← hL] at hok hfl hle ⊢
          have hcp := Hcap.out
          obtain ⟨w2, hrun, hown2, hg2⟩ := run_appF (P := Try.prog) wr w.heap.size 25 25 5 i0 Try.underlying25 Hi.out g1 cap L hok w.heap.size Ak ck p h4 (by omega)
          have Hfl := Lib.hid hfl
          have hbw2 := Lib.hid (hbk.trans ((Below.refl w.heap.size wr).grown hg2 hbk.size (fun j hj => (World.ownsRow.lt hok j (by rw [← hj]; rfl)).1)))
          have Hbk := Lib.hid hbk
          have Hown2 := Lib.hid hown2
          clear hp hst hl1 hfl hok hbk hL hown2 hg2
          go_wp2_with (at_builtin; go_loud (refine Lib.wpList_append_run _ rfl (.tmp 31) (.tmp 32) 25 25 rfl _ _ rfl rfl _ _ hrun ?_))
          all_goals
            exact ⟨⟨k + 1, by omega, by go_num, by rw [Hfl.out, List.length_append], by rw [Hfl.out, List.length_append]; exact Hown2.out, hbw2.out⟩, by simp [intOf]; omega⟩
        · have hke : k = ps.length := by omega
          subst hke
          rw [List.take_length] at hok
          have Hok := Lib.hid hok
          clear hok
          rw [List.take_length]
          go_wp2
          go_ret
          exact ⟨_, rfl, Hok.out, hbk⟩

set_option maxHeartbeats 400000 in
theorem join2_calls (ps : List (List UInt8)) (A : Option Addr) (c : Nat) (w : World) (h : ReadBB w w.heap.size A ps) (hps : ps.length ≤ 140737488351232) (hsum : sumLen ps ≤ 281474976710656) :
    Calls Try.prog 30 #[.slice A ps.length c] w
    fun e w' => ∃ v, e = .returned v ∧ OwnB w' w.heap.size 5 v ps.flatten ∧ Below w.heap.size w w' := by
  rcases Nat.lt_or_ge 0 (sumLen ps) with h0 | h0
  · go_enter Try.func30, Try.ntmps30
    go_wp2_with (go_at_call 50; go_must (refine (concat2_calls ps A c _ h hps h0 hsum).mono ?_); rintro e w1 ⟨v1, rfl, ho1, hb1⟩)
    go_ret
    exact ⟨_, rfl, ho1, hb1⟩
  · exact join_calls ps A c w h hps (by omega)
end Fi
end Go.Proofs.Ytldhplanpnddbaa

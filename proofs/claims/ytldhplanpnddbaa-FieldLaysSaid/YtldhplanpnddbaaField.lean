/- What laying numbers and texts does, of the program. -/
import Derived.Test.YtldhplanpnddbaaBase2
import Derived.Test.YtldhplanpnddbaaVarint2
import Derived.Test.YtldhplanpnddbaaFieldm
namespace Go.Proofs.Ytldhplanpnddbaa
namespace Fi
open Go.RowKit Ba Vm Fm Vi
set_option linter.unusedVariables false

set_option maxHeartbeats 400000 in
theorem num_calls (n : Int) (hn : n ≤ 9223372036854775807) (w : World) : Calls Try.prog 28 #[.int .i64 n] w
    fun e w' => ∃ v, e = .returned v ∧ OwnB w' w.heap.size 5 v (num n) ∧ Below w.heap.size w w' := by
  have Hn := Lib.hid (num_none n)
  rcases put_snd n with h0 | h0
  · go_enter Try.func28, Try.ntmps28
    go_wp2_with fail
    refine (put_calls n hn _).mono ?_
    rw [h0]
    rintro e w1 ⟨v1, rfl, ho1, hb1⟩
    go_wp2_with fail
    go_ret
    exact ⟨v1, rfl, ho1, hb1⟩
  · have he : num n = [] := Hn.out (by rw [h0]; simp)
    have He := Lib.hid he
    clear he
    go_enter Try.func28, Try.ntmps28
    go_wp2_with fail
    refine (put_calls n hn _).mono ?_
    rw [h0]
    rintro e w1 ⟨v1, rfl, ho1, hb1⟩
    go_wp2_with fail
    go_ret
    exact ⟨.slice none 0 0, rfl, by rw [He.out]; exact OwnB.nil, hb1⟩

set_option maxHeartbeats 400000 in
theorem text_calls (r : List UInt8) (hr : r.length ≤ 140737488351232) (w : World) : Calls Try.prog 26 #[.string (S r)] w
    fun e w' => ∃ v, e = .returned v ∧ OwnB w' w.heap.size 5 v (text r) ∧ Below w.heap.size w w' := by
  obtain ⟨i0, hi0⟩ := isByte_of info5
  have Hi := Lib.hid hi0
  have hl8 := num_len (r.length : Int)
  clear hi0
  go_enter Try.func26, Try.ntmps26
  go_wp2_with (first
    | (go_at_call 28; go_must (refine (num_calls _ (by omega) _).mono ?_); rintro e w1 ⟨v1, rfl, ho1, hb1⟩)
    | (at_builtin; go_loud (refine wpList_appS _ rfl (.tmp 5) (.tmp 6) 25 9 rfl w.heap.size 5 i0 Try.underlying25 Try.underlying9 Hi.out v1 _ rfl ho1 r rfl (by omega) hb1.size ?_); intro v2 w2 hown2 hg2 hbw2))
  go_ret
  exact ⟨v2, rfl, hown2, hb1.trans hbw2⟩

set_option maxHeartbeats 400000 in
theorem grow_calls (n : Nat) (hn : n ≤ 140737488355328) (w : World) : Calls Try.prog 54 #[.slice none 0 0, .int .i64 (n : Int)] w
    fun e w' => ∃ v, e = .returned v ∧ OwnB w' w.heap.size 5 v [] ∧ Below w.heap.size w w' := by
  obtain ⟨i0, hi0⟩ := isByte_of info5
  have Hi := Lib.hid hi0
  clear hi0
  by_cases hz : n = 0
  · subst hz
    go_enter Try.func54, Try.ntmps54
    go_wp2
    go_ret
    exact ⟨.slice none 0 0, rfl, OwnB.nil, Below.refl _ _⟩
  · go_enter Try.func54, Try.ntmps54
    go_wp2_with (at_builtin; go_loud (refine Lib.wpList_append_run _ rfl (.tmp 20) (.tmp 21) 25 3 rfl _ _ rfl rfl _ _ (Lib.run_append_nil_zeros (P := Try.prog) _ 25 3 _ 5 i0 (.int .u8 0) .i64 .i64 Try.underlying25 Try.underlying3 Hi.out.1 Hi.out.2.1 n (by omega) (by rw [Hi.out.2.2.1]; omega) (by omega) (by rw [Hi.out.2.2.2]; omega)) ?_))
    go_ret
    have hge := grownCap_ge w n 0 5
    have hcm : grownCap w n 0 5 ≤ maxLen := grownCap_le_maxLen w n 0 5 (by unfold maxLen; omega)
    refine ⟨_, rfl, ⟨rfl, .inr ⟨w.heap.size, grownCap w n 0 5, _, rfl, Nat.le_refl _, heap_alloc_new w.drew _, Nat.zero_le _, hcm, ?_, by simp [bvs]⟩⟩, ?_⟩
    · have hz1 : (#[Value.int IntKind.u8 0] : Array Value).size = 1 := rfl
      rw [Array.size_append, size_zeroCells, size_zeroCells, hz1]
      omega
    · exact ((Below.refl _ _).drew).alloc (Nat.le_refl _) _

def sumLen : List (List UInt8) → Nat
  | [] => 0
  | p :: ps => p.length + sumLen ps
theorem sumLen_take (ps : List (List UInt8)) (k : Nat) (h : k < ps.length) : sumLen (ps.take (k + 1)) = sumLen (ps.take k) + (ps.getD k []).length := by
  induction ps generalizing k with
  | nil => simp at h
  | cons p ps ih =>
    cases k with
    | zero => simp [sumLen]
    | succ k =>
      have := ih k (by simpa using h)
      simp only [List.take_succ_cons, sumLen, this]
      simp [List.getD]
      omega
theorem sumLen_take_le (ps : List (List UInt8)) (k : Nat) : sumLen (ps.take k) ≤ sumLen ps := by
  induction ps generalizing k with
  | nil => simp
  | cons p ps ih =>
    cases k with
    | zero => simp [sumLen]
    | succ k => have := ih k; simp only [List.take_succ_cons, sumLen]; omega
theorem flatten_len (ps : List (List UInt8)) : ps.flatten.length = sumLen ps := by
  induction ps with
  | nil => rfl
  | cons p ps ih => simp [sumLen, ih]
theorem flatten_take (ps : List (List UInt8)) (k : Nat) (h : k < ps.length) : (ps.take (k + 1)).flatten = (ps.take k).flatten ++ ps.getD k [] := by
  rw [List.take_succ_eq_append_getElem h, List.flatten_append]
  simp [List.getD, h]

set_option maxHeartbeats 800000 in
theorem concat_calls (ps : List (List UInt8)) (A : Option Addr) (c : Nat) (w : World) (h : ReadBB w w.heap.size A ps) (hps : ps.length ≤ 140737488351232) (hsum : sumLen ps ≤ 140737488355328) :
    Calls Try.prog 50 #[.slice A ps.length c] w
    fun e w' => ∃ v, e = .returned v ∧ OwnB w' w.heap.size 5 v ps.flatten ∧ Below w.heap.size w w' := by
  obtain ⟨i0, hi0⟩ := isByte_of info5
  have Hi := Lib.hid hi0
  clear hi0
  go_enter Try.func50, Try.ntmps50
  go_wp2_with fail
  go_loop [3, 11] (fun z i => ∃ k : Nat, k ≤ ps.length ∧ i = .int .i64 k ∧ z = .int .i64 (sumLen (ps.take k))) (fun _ i => ps.length - (intOf i).toNat)
  case atStart => exact ⟨0, Nat.zero_le _, rfl, rfl⟩
  case round =>
    obtain ⟨k, hk, rfl, rfl⟩ := hrel
    by_cases hkl : k < ps.length
    · obtain ⟨b, o, rfl, hb, hc⟩ := h (by omega)
      obtain ⟨Ak, ck, h1, h2, h3, h4⟩ := hc k hkl
      have Hc := Lib.hid hc
      have Hh := Lib.hid h
      have hst := sumLen_take ps k hkl
      have hle := sumLen_take_le ps (k + 1)
      clear hc h
      obtain ⟨p, hp⟩ : ∃ p, p = ps.getD k [] := ⟨_, rfl⟩
      rw [← hp] at h1 h2 h4 hst
      rw [hst] at hle
      have Hst := Lib.hid hst
      clear hp hst
      generalize sumLen (ps.take k) = s1 at Hst hle
      go_wp2
      all_goals
        refine ⟨⟨k + 1, by omega, by go_num, by rw [Hst.out]; go_num⟩, by simp [intOf]; omega⟩
    · have hke : k = ps.length := by omega
      subst hke
      have Ht : Hid (sumLen (ps.take ps.length) = sumLen ps) := by show _ = _; rw [List.take_length]
      have hsn : 0 ≤ (sumLen ps : Int) := by omega
      rw [Ht.out]
      clear hkl
      have Hh := Lib.hid h
      clear h
      go_wp2_with (go_at_call 54; go_must (refine (grow_calls (sumLen ps) hsum _).mono ?_); rintro e w1 ⟨v1, rfl, ho1, hb1⟩)
      have h1 := Hh.out.below hb1
      have Ho1 := Lib.hid ho1
      have Hb1 := Lib.hid hb1
      clear ho1 hb1
      go_loopw [6, 27] (fun s i wr => ∃ k : Nat, k ≤ ps.length ∧ i = .int .i64 k ∧ OwnB wr w.heap.size 5 s ((ps.take k).flatten) ∧ Below w.heap.size w wr) (fun _ i _ => ps.length - (intOf i).toNat)
      case atStart => exact ⟨0, Nat.zero_le _, rfl, Ho1.out, Hb1.out⟩
      case round =>
        obtain ⟨k, hk, rfl, hok, hbk⟩ := hrel
        have hl1 := flatten_len (ps.take k)
        by_cases hkl : k < ps.length
        · obtain ⟨b, o, rfl, hb, hc⟩ := Hh.out.below hbk (by omega)
          obtain ⟨Ak, ck, h1, h2, h3, h4⟩ := hc k hkl
          have Hc := Lib.hid hc
          have hst := sumLen_take ps k hkl
          have hle := sumLen_take_le ps (k + 1)
          have hfl := flatten_take ps k hkl
          clear hc
          obtain ⟨p, hp⟩ : ∃ p, p = ps.getD k [] := ⟨_, rfl⟩
          rw [← hp] at h1 h2 h4 hst hfl
          rw [hst, ← hl1] at hle
          have Hfl := Lib.hid hfl
          have Hok := Lib.hid hok
          have Hbk := Lib.hid hbk
          clear hp hst hl1 hfl hok hbk
          go_wp2_with (at_builtin; go_loud (refine wpList_appB _ rfl (.tmp 31) (.tmp 32) 25 rfl w.heap.size 5 i0 Try.underlying25 Hi.out _ _ rfl Hok.out w.heap.size Ak _ ck p rfl rfl h4 (by omega) Hbk.out.size ?_); intro v2 w2 hown2 hg2 hat2 hbw2)
          all_goals
            refine ⟨⟨k + 1, by omega, by go_num, by rw [Hfl.out]; exact hown2, Hbk.out.trans hbw2⟩, by simp [intOf]; omega⟩
        · have hke : k = ps.length := by omega
          subst hke
          rw [List.take_length] at hok
          have Hok := Lib.hid hok
          clear hok
          go_wp2
          go_ret
          exact ⟨_, rfl, Hok.out, hbk⟩

set_option maxHeartbeats 400000 in
theorem join_calls (ps : List (List UInt8)) (A : Option Addr) (c : Nat) (w : World) (h : ReadBB w w.heap.size A ps) (hps : ps.length ≤ 140737488351232) (hsum : sumLen ps ≤ 140737488355328) :
    Calls Try.prog 30 #[.slice A ps.length c] w
    fun e w' => ∃ v, e = .returned v ∧ OwnB w' w.heap.size 5 v ps.flatten ∧ Below w.heap.size w w' := by
  go_enter Try.func30, Try.ntmps30
  go_wp2_with (go_at_call 50; go_must (refine (concat_calls ps A c _ h hps hsum).mono ?_); rintro e w1 ⟨v1, rfl, ho1, hb1⟩)
  go_ret
  exact ⟨_, rfl, ho1, hb1⟩
end Fi
end Go.Proofs.Ytldhplanpnddbaa

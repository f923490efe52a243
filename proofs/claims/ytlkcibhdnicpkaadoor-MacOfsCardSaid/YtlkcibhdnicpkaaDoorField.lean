/- What laying numbers and texts does, of the program. -/
import Derived.Test.YtlkcibhdnicpkaaDoorBase2
import Derived.Test.YtlkcibhdnicpkaaDoorVarint2
import Derived.Test.YtlkcibhdnicpkaaDoorFieldm
namespace Go.Proofs.YtlkcibhdnicpkaaDoor
namespace Fi
open Go.RowKit Ba Vm Fm Vi
set_option linter.unusedVariables false

set_option maxHeartbeats 400000 in
theorem num_calls (n : Int) (hn : n ≤ 9223372036854775807) (w : World) : Calls Tryd.prog 60 #[.int .i64 n] w
    fun e w' => ∃ v, e = .returned v ∧ OwnB w' w.heap.size 5 v (num n) ∧ Below w.heap.size w w' := by
  have Hn := Lib.hid (num_none n)
  rcases put_snd n with h0 | h0
  · go_enter Tryd.func60, Tryd.ntmps60
    go_wp2_with fail
    refine (put_calls n hn _).mono ?_
    rw [h0]
    rintro e w1 ⟨v1, rfl, ho1, hb1⟩
    go_wp2_with fail
    go_ret
    exact ⟨v1, rfl, ho1, hb1⟩
  · have he : num n = [] := Hn.out (by rw [h0]; simp)
    have He := Lib.hid he
    clear he
    go_enter Tryd.func60, Tryd.ntmps60
    go_wp2_with fail
    refine (put_calls n hn _).mono ?_
    rw [h0]
    rintro e w1 ⟨v1, rfl, ho1, hb1⟩
    go_wp2_with fail
    go_ret
    exact ⟨.slice none 0 0, rfl, by rw [He.out]; exact OwnB.nil, hb1⟩

set_option maxHeartbeats 400000 in
theorem text_calls (r : List UInt8) (hr : r.length ≤ 140737488351232) (w : World) : Calls Tryd.prog 52 #[.string (S r)] w
    fun e w' => ∃ v, e = .returned v ∧ OwnB w' w.heap.size 5 v (text r) ∧ Below w.heap.size w w' := by
  obtain ⟨i0, hi0⟩ := isByte_of info5
  have Hi := Lib.hid hi0
  have hl8 := num_len (r.length : Int)
  clear hi0
  go_enter Tryd.func52, Tryd.ntmps52
  go_wp2_with (first
    | (go_at_call 60; go_must (refine (num_calls _ (by omega) _).mono ?_); rintro e w1 ⟨v1, rfl, ho1, hb1⟩)
    | (at_builtin; go_loud (refine wpList_appS _ rfl (.tmp 5) (.tmp 6) 22 9 rfl w.heap.size 5 i0 Tryd.underlying22 Tryd.underlying9 Hi.out v1 _ rfl ho1 r rfl (by omega) hb1.size ?_); intro v2 w2 hown2 hg2 hbw2))
  go_ret
  exact ⟨v2, rfl, hown2, hb1.trans hbw2⟩

def sumLen : List (List UInt8) → Nat
  | [] => 0
  | p :: ps => p.length + sumLen ps
theorem sumLen_take (ps : List (List UInt8)) (k : Nat) (h : k < ps.length) : sumLen (ps.take (k + 1)) = sumLen (ps.take k) + (ps.getD k []).length := by
  induction ps generalizing k with
  | nil => simp at h
  | cons p ps ih =>
    cases k with
    | zero => simp [sumLen]
    | succ k =>
      have := ih k (by simpa using h)
      simp only [List.take_succ_cons, sumLen, this]
      simp [List.getD]
      omega
theorem sumLen_take_le (ps : List (List UInt8)) (k : Nat) : sumLen (ps.take k) ≤ sumLen ps := by
  induction ps generalizing k with
  | nil => simp
  | cons p ps ih =>
    cases k with
    | zero => simp [sumLen]
    | succ k => have := ih k; simp only [List.take_succ_cons, sumLen]; omega
theorem flatten_len (ps : List (List UInt8)) : ps.flatten.length = sumLen ps := by
  induction ps with
  | nil => rfl
  | cons p ps ih => simp [sumLen, ih]
theorem flatten_take (ps : List (List UInt8)) (k : Nat) (h : k < ps.length) : (ps.take (k + 1)).flatten = (ps.take k).flatten ++ ps.getD k [] := by
  rw [List.take_succ_eq_append_getElem h, List.flatten_append]
  simp [List.getD, h]

end Fi
end Go.Proofs.YtlkcibhdnicpkaaDoor

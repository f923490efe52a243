/- What the reference lays and takes off of numbers and texts: the same as the program. -/
import Derived.Test.YtlkcibhdnicpkaaDoorVref3
import Derived.Test.YtlkcibhdnicpkaaDoorField
import Derived.BigQuiet
import Derived.StillTailTactics
namespace Go.Proofs.YtlkcibhdnicpkaaDoor
namespace Fr
open Go.RowKit Ba Vm Fm Vi Fi
set_option linter.unusedVariables false

set_option maxHeartbeats 400000 in
theorem num_calls (n : Int) (hn : n ≤ 9223372036854775807) (w : World) : Calls Tryd.prog 61 #[.int .i64 n] w
    fun e w' => ∃ v, e = .returned v ∧ OwnB w' w.heap.size 5 v (num n) ∧ Below w.heap.size w w' := by
  go_enter Tryd.func61, Tryd.ntmps61
  go_wp2_with fail
  refine (rput_calls n hn _).mono ?_
  rintro e w1 ⟨v1, rfl, ho1, hb1⟩
  go_wp2_with fail
  go_ret
  exact ⟨v1, rfl, ho1, hb1⟩

set_option maxHeartbeats 400000 in
theorem text_calls (r : List UInt8) (hr : r.length ≤ 140737488351232) (w : World) : Calls Tryd.prog 53 #[.string (S r)] w
    fun e w' => ∃ v, e = .returned v ∧ OwnB w' w.heap.size 5 v (text r) ∧ Below w.heap.size w w' := by
  obtain ⟨i0, hi0⟩ := isByte_of info5
  have Hi := Lib.hid hi0
  have hl8 := num_len (r.length : Int)
  clear hi0
  go_enter Tryd.func53, Tryd.ntmps53
  go_wp2_with (first
    | (go_at_call 61; go_must (refine (num_calls _ (by omega) _).mono ?_); rintro e w1 ⟨v1, rfl, ho1, hb1⟩)
    | (at_builtin; go_loud (refine wpList_appS _ rfl (.tmp 5) (.tmp 6) 22 9 rfl w.heap.size 5 i0 Tryd.underlying22 Tryd.underlying9 Hi.out v1 _ rfl ho1 r rfl (by omega) hb1.size ?_); intro v2 w2 hown2 hg2 hbw2))
  go_ret
  exact ⟨v2, rfl, hown2, hb1.trans hbw2⟩

theorem blk_cell {w : World} {g : Nat} {x y : Value} {t : TypeId} (h : w.heap[g]? = some (.cells #[x, y] t (0, 0))) :
    w.cell? ⟨g, 0, none⟩ = some x ∧ w.cell? ⟨g, 1, none⟩ = some y ∧ w.frozen? ⟨g, 0, none⟩ = false ∧ w.frozen? ⟨g, 1, none⟩ = false :=
  ⟨by rw [cell_of_row w g 0 _ t _ h]; rfl, by rw [cell_of_row w g 1 _ t _ h]; rfl, frozen_of_row w g 0 _ t h, frozen_of_row w g 1 _ t h⟩
/-- the reference's reader, as a value -/
theorem strof_take (W : World) (A : Option Addr) (c B m : Nat) (l : List UInt8) (h : ReadB W B A l) (hm : m ≤ l.length) : (convert 22 9 (.slice A m c)).run Tryd.prog W = .ok (.string (S (l.take m))) W := by
  have := run_strof W 22 5 Tryd.underlying22 Tryd.underlying5 A c B (l.take m) (h.take m) 9 Tryd.underlying9
  rw [List.length_take, Nat.min_eq_left hm] at this
  exact this
def IsV (w : World) (B : Nat) (v : Value) (r : Rd) : Prop := ∃ A c, v = .agg #[.slice A r.l.length c, .int .i64 r.e] ∧ r.l.length ≤ c ∧ c ≤ 9223372036854775807 ∧ ReadB w B A r.l
theorem IsV.below {w w' : World} {B : Nat} {v : Value} {r : Rd} (h : IsV w B v r) (hb : Below B w w') : IsV w' B v r := by
  obtain ⟨A, c, h1, h2, h3, h4⟩ := h
  exact ⟨A, c, h1, h2, h3, h4.below hb⟩

end Fr
end Go.Proofs.YtlkcibhdnicpkaaDoor

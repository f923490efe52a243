/- The closed case's two texts, in whatever order they are laid. -/
import Derived.Test.YtlkcibhdnicpkaaDoorSo
import Derived.Test.YtlkcibhdnicpkaaDoorLit
namespace Go.Proofs.YtlkcibhdnicpkaaDoor
namespace Sk
open Go.RowKit Ba Sm
set_option linter.unusedVariables false
set_option linter.unusedSimpArgs false
theorem abc_at (W W' : World) (htab : Tab W) (hb : Below W.heap.size W W') (g a b : Nat) (hlt : g < W'.heap.size ∧ a < W'.heap.size ∧ b < W'.heap.size) (h1 : W'.cell? ⟨g, 0, none⟩ = some (.slice (some ⟨a, 0, none⟩) 1 1)) (h2 : W'.cell? ⟨g, 1, none⟩ = some (.slice (some ⟨b, 0, none⟩) 2 2))
    (h3 : W'.cell? ⟨a, 0, none⟩ = some (.int .u8 97)) (h4 : W'.cell? ⟨b, 0, none⟩ = some (.int .u8 98)) (h5 : W'.cell? ⟨b, 1, none⟩ = some (.int .u8 99)) :
    Calls Tryd.prog 14 #[.slice (some ⟨g, 0, none⟩) 2 2] W' fun e w' => e = .returned (.agg (bvs (sha [97, 98, 99])).toArray) ∧ Below W.heap.size W w' := by
  have hr : ReadBB W' W'.heap.size (some ⟨g, 0, none⟩) [[97], [98, 99]] := by
    intro _
    refine ⟨g, 0, rfl, hlt.1, fun k hk => ?_⟩
    have hk2 : k = 0 ∨ k = 1 := by simp at hk; omega
    rcases hk2 with rfl | rfl
    · refine ⟨some ⟨a, 0, none⟩, 1, h1, by simp, by omega, fun _ => ⟨a, 0, rfl, hlt.2.1, fun j hj => ?_⟩⟩
      have : j = 0 := by simp at hj; omega
      subst this
      exact h3
    · refine ⟨some ⟨b, 0, none⟩, 2, h2, by simp, by omega, fun _ => ⟨b, 0, rfl, hlt.2.2, fun j hj => ?_⟩⟩
      have : j = 0 ∨ j = 1 := by simp at hj; omega
      rcases this with rfl | rfl
      · exact h4
      · exact h5
  refine (of_calls [[97], [98, 99]] (some ⟨g, 0, none⟩) 2 W' hr (htab.below hb) (by simp) (by omega) (by intro p hp; simp at hp; rcases hp with rfl | rfl <;> simp) (by simp)).mono ?_
  rintro e w' ⟨h1, h2⟩
  exact ⟨h1, hb.trans (h2.mono hb.size)⟩
theorem abc_1 (W : World) (htab : Tab W) : Calls Tryd.prog 14 #[.slice (some ⟨W.heap.size + 1 + 1, 0, none⟩) 2 2] ((Li.mkB (((Li.mkB (W.alloc (.cells #[.int .u8 97] 5)) W.heap.size)).alloc (.cells #[.int .u8 98, .int .u8 99] 5)) (W.heap.size + 1)).alloc (.cells #[.slice (some ⟨W.heap.size, 0, none⟩) 1 1, .slice (some ⟨(W.heap.size + 1), 0, none⟩) 2 2] 22)) fun e w' => e = .returned (.agg (bvs (sha [97, 98, 99])).toArray) ∧ Below W.heap.size W w' := by
  refine abc_at W _ htab ?_ (W.heap.size + 1 + 1) W.heap.size (W.heap.size + 1) ⟨?_, ?_, ?_⟩ ?_ ?_ ?_ ?_ ?_
  · repeat (first | with_reducible exact Below.refl _ _ | (with_reducible refine Below.alloc ?_ (by (first | (simp [Li.mkB_size]; done) | (simp [Li.mkB_size]; omega) | omega)) _) | (with_reducible refine Li.mkB_below ?_ (by (first | (simp [Li.mkB_size]; done) | (simp [Li.mkB_size]; omega) | omega)) (by (first | (simp [Li.mkB_size]; done) | (simp [Li.mkB_size]; omega) | omega))))
  · (first | (simp [Li.mkB_size]; done) | (simp [Li.mkB_size]; omega) | omega)
  · (first | (simp [Li.mkB_size]; done) | (simp [Li.mkB_size]; omega) | omega)
  · (first | (simp [Li.mkB_size]; done) | (simp [Li.mkB_size]; omega) | omega)
  all_goals
    repeat (first | (rw [Li.mkB_cell]) | (rw [World.cell?_alloc_at]; rotate_left; (focus (first | (simp [Li.mkB_size]; done) | (simp [Li.mkB_size]; omega) | omega)); (focus rfl)) | (rw [World.cell?_alloc_past]; rotate_left; (focus (first | (simp [Li.mkB_size]; done) | (simp [Li.mkB_size]; omega) | omega))))
theorem abc_2 (W : World) (htab : Tab W) : Calls Tryd.prog 14 #[.slice (some ⟨W.heap.size + 1 + 1, 0, none⟩) 2 2] ((Li.mkB (Li.mkB (((W.alloc (.cells #[.int .u8 97] 5))).alloc (.cells #[.int .u8 98, .int .u8 99] 5)) W.heap.size) (W.heap.size + 1)).alloc (.cells #[.slice (some ⟨W.heap.size, 0, none⟩) 1 1, .slice (some ⟨(W.heap.size + 1), 0, none⟩) 2 2] 22)) fun e w' => e = .returned (.agg (bvs (sha [97, 98, 99])).toArray) ∧ Below W.heap.size W w' := by
  refine abc_at W _ htab ?_ (W.heap.size + 1 + 1) W.heap.size (W.heap.size + 1) ⟨?_, ?_, ?_⟩ ?_ ?_ ?_ ?_ ?_
  · repeat (first | with_reducible exact Below.refl _ _ | (with_reducible refine Below.alloc ?_ (by (first | (simp [Li.mkB_size]; done) | (simp [Li.mkB_size]; omega) | omega)) _) | (with_reducible refine Li.mkB_below ?_ (by (first | (simp [Li.mkB_size]; done) | (simp [Li.mkB_size]; omega) | omega)) (by (first | (simp [Li.mkB_size]; done) | (simp [Li.mkB_size]; omega) | omega))))
  · (first | (simp [Li.mkB_size]; done) | (simp [Li.mkB_size]; omega) | omega)
  · (first | (simp [Li.mkB_size]; done) | (simp [Li.mkB_size]; omega) | omega)
  · (first | (simp [Li.mkB_size]; done) | (simp [Li.mkB_size]; omega) | omega)
  all_goals
    repeat (first | (rw [Li.mkB_cell]) | (rw [World.cell?_alloc_at]; rotate_left; (focus (first | (simp [Li.mkB_size]; done) | (simp [Li.mkB_size]; omega) | omega)); (focus rfl)) | (rw [World.cell?_alloc_past]; rotate_left; (focus (first | (simp [Li.mkB_size]; done) | (simp [Li.mkB_size]; omega) | omega))))
theorem abc_3 (W : World) (htab : Tab W) : Calls Tryd.prog 14 #[.slice (some ⟨W.heap.size + 1 + 1, 0, none⟩) 2 2] ((Li.mkB (Li.mkB (((W.alloc (.cells #[.int .u8 97] 5))).alloc (.cells #[.int .u8 98, .int .u8 99] 5)) (W.heap.size + 1)) W.heap.size).alloc (.cells #[.slice (some ⟨W.heap.size, 0, none⟩) 1 1, .slice (some ⟨(W.heap.size + 1), 0, none⟩) 2 2] 22)) fun e w' => e = .returned (.agg (bvs (sha [97, 98, 99])).toArray) ∧ Below W.heap.size W w' := by
  refine abc_at W _ htab ?_ (W.heap.size + 1 + 1) W.heap.size (W.heap.size + 1) ⟨?_, ?_, ?_⟩ ?_ ?_ ?_ ?_ ?_
  · repeat (first | with_reducible exact Below.refl _ _ | (with_reducible refine Below.alloc ?_ (by (first | (simp [Li.mkB_size]; done) | (simp [Li.mkB_size]; omega) | omega)) _) | (with_reducible refine Li.mkB_below ?_ (by (first | (simp [Li.mkB_size]; done) | (simp [Li.mkB_size]; omega) | omega)) (by (first | (simp [Li.mkB_size]; done) | (simp [Li.mkB_size]; omega) | omega))))
  · (first | (simp [Li.mkB_size]; done) | (simp [Li.mkB_size]; omega) | omega)
  · (first | (simp [Li.mkB_size]; done) | (simp [Li.mkB_size]; omega) | omega)
  · (first | (simp [Li.mkB_size]; done) | (simp [Li.mkB_size]; omega) | omega)
  all_goals
    repeat (first | (rw [Li.mkB_cell]) | (rw [World.cell?_alloc_at]; rotate_left; (focus (first | (simp [Li.mkB_size]; done) | (simp [Li.mkB_size]; omega) | omega)); (focus rfl)) | (rw [World.cell?_alloc_past]; rotate_left; (focus (first | (simp [Li.mkB_size]; done) | (simp [Li.mkB_size]; omega) | omega))))
theorem abc_4 (W : World) (htab : Tab W) : Calls Tryd.prog 14 #[.slice (some ⟨W.heap.size + 1 + 1, 0, none⟩) 2 2] ((Li.mkB (((Li.mkB (W.alloc (.cells #[.int .u8 98, .int .u8 99] 5)) W.heap.size)).alloc (.cells #[.int .u8 97] 5)) (W.heap.size + 1)).alloc (.cells #[.slice (some ⟨(W.heap.size + 1), 0, none⟩) 1 1, .slice (some ⟨W.heap.size, 0, none⟩) 2 2] 22)) fun e w' => e = .returned (.agg (bvs (sha [97, 98, 99])).toArray) ∧ Below W.heap.size W w' := by
  refine abc_at W _ htab ?_ (W.heap.size + 1 + 1) (W.heap.size + 1) W.heap.size ⟨?_, ?_, ?_⟩ ?_ ?_ ?_ ?_ ?_
  · repeat (first | with_reducible exact Below.refl _ _ | (with_reducible refine Below.alloc ?_ (by (first | (simp [Li.mkB_size]; done) | (simp [Li.mkB_size]; omega) | omega)) _) | (with_reducible refine Li.mkB_below ?_ (by (first | (simp [Li.mkB_size]; done) | (simp [Li.mkB_size]; omega) | omega)) (by (first | (simp [Li.mkB_size]; done) | (simp [Li.mkB_size]; omega) | omega))))
  · (first | (simp [Li.mkB_size]; done) | (simp [Li.mkB_size]; omega) | omega)
  · (first | (simp [Li.mkB_size]; done) | (simp [Li.mkB_size]; omega) | omega)
  · (first | (simp [Li.mkB_size]; done) | (simp [Li.mkB_size]; omega) | omega)
  all_goals
    repeat (first | (rw [Li.mkB_cell]) | (rw [World.cell?_alloc_at]; rotate_left; (focus (first | (simp [Li.mkB_size]; done) | (simp [Li.mkB_size]; omega) | omega)); (focus rfl)) | (rw [World.cell?_alloc_past]; rotate_left; (focus (first | (simp [Li.mkB_size]; done) | (simp [Li.mkB_size]; omega) | omega))))
theorem abc_5 (W : World) (htab : Tab W) : Calls Tryd.prog 14 #[.slice (some ⟨W.heap.size + 1 + 1, 0, none⟩) 2 2] ((Li.mkB (Li.mkB (((W.alloc (.cells #[.int .u8 98, .int .u8 99] 5))).alloc (.cells #[.int .u8 97] 5)) W.heap.size) (W.heap.size + 1)).alloc (.cells #[.slice (some ⟨(W.heap.size + 1), 0, none⟩) 1 1, .slice (some ⟨W.heap.size, 0, none⟩) 2 2] 22)) fun e w' => e = .returned (.agg (bvs (sha [97, 98, 99])).toArray) ∧ Below W.heap.size W w' := by
  refine abc_at W _ htab ?_ (W.heap.size + 1 + 1) (W.heap.size + 1) W.heap.size ⟨?_, ?_, ?_⟩ ?_ ?_ ?_ ?_ ?_
  · repeat (first | with_reducible exact Below.refl _ _ | (with_reducible refine Below.alloc ?_ (by (first | (simp [Li.mkB_size]; done) | (simp [Li.mkB_size]; omega) | omega)) _) | (with_reducible refine Li.mkB_below ?_ (by (first | (simp [Li.mkB_size]; done) | (simp [Li.mkB_size]; omega) | omega)) (by (first | (simp [Li.mkB_size]; done) | (simp [Li.mkB_size]; omega) | omega))))
  · (first | (simp [Li.mkB_size]; done) | (simp [Li.mkB_size]; omega) | omega)
  · (first | (simp [Li.mkB_size]; done) | (simp [Li.mkB_size]; omega) | omega)
  · (first | (simp [Li.mkB_size]; done) | (simp [Li.mkB_size]; omega) | omega)
  all_goals
    repeat (first | (rw [Li.mkB_cell]) | (rw [World.cell?_alloc_at]; rotate_left; (focus (first | (simp [Li.mkB_size]; done) | (simp [Li.mkB_size]; omega) | omega)); (focus rfl)) | (rw [World.cell?_alloc_past]; rotate_left; (focus (first | (simp [Li.mkB_size]; done) | (simp [Li.mkB_size]; omega) | omega))))
theorem abc_6 (W : World) (htab : Tab W) : Calls Tryd.prog 14 #[.slice (some ⟨W.heap.size + 1 + 1, 0, none⟩) 2 2] ((Li.mkB (Li.mkB (((W.alloc (.cells #[.int .u8 98, .int .u8 99] 5))).alloc (.cells #[.int .u8 97] 5)) (W.heap.size + 1)) W.heap.size).alloc (.cells #[.slice (some ⟨(W.heap.size + 1), 0, none⟩) 1 1, .slice (some ⟨W.heap.size, 0, none⟩) 2 2] 22)) fun e w' => e = .returned (.agg (bvs (sha [97, 98, 99])).toArray) ∧ Below W.heap.size W w' := by
  refine abc_at W _ htab ?_ (W.heap.size + 1 + 1) (W.heap.size + 1) W.heap.size ⟨?_, ?_, ?_⟩ ?_ ?_ ?_ ?_ ?_
  · repeat (first | with_reducible exact Below.refl _ _ | (with_reducible refine Below.alloc ?_ (by (first | (simp [Li.mkB_size]; done) | (simp [Li.mkB_size]; omega) | omega)) _) | (with_reducible refine Li.mkB_below ?_ (by (first | (simp [Li.mkB_size]; done) | (simp [Li.mkB_size]; omega) | omega)) (by (first | (simp [Li.mkB_size]; done) | (simp [Li.mkB_size]; omega) | omega))))
  · (first | (simp [Li.mkB_size]; done) | (simp [Li.mkB_size]; omega) | omega)
  · (first | (simp [Li.mkB_size]; done) | (simp [Li.mkB_size]; omega) | omega)
  · (first | (simp [Li.mkB_size]; done) | (simp [Li.mkB_size]; omega) | omega)
  all_goals
    repeat (first | (rw [Li.mkB_cell]) | (rw [World.cell?_alloc_at]; rotate_left; (focus (first | (simp [Li.mkB_size]; done) | (simp [Li.mkB_size]; omega) | omega)); (focus rfl)) | (rw [World.cell?_alloc_past]; rotate_left; (focus (first | (simp [Li.mkB_size]; done) | (simp [Li.mkB_size]; omega) | omega))))
end Sk
end Go.Proofs.YtlkcibhdnicpkaaDoor

/- The hasher, of the program: a new one, what is written, the sum, the length, a fork. -/
import Derived.Test.YtlkcibhdnicpkaaDoorSw
namespace Go.Proofs.YtlkcibhdnicpkaaDoor
namespace Sm
open Go.RowKit Ba
set_option linter.unusedVariables false

/-- bytes that lie in a block of bytes -/
def ReadT (w : World) (E : TypeId) (A : Option Addr) (l : List UInt8) : Prop :=
  0 < l.length → ∃ b o cs, A = some ⟨b, o, none⟩ ∧ Blk w b E cs ∧ ∀ k, k < l.length → w.cell? ⟨b, o + k, none⟩ = some (.int .u8 ((l.getD k 0).toNat : Int))
section
variable {w w' : World} {E : TypeId} {A : Option Addr} {l : List UInt8}
theorem ReadT.readB (h : ReadT w E A l) : ReadB w w.heap.size A l := fun hn => by
  obtain ⟨b, o, cs, e, hb, hc⟩ := h hn
  exact ⟨b, o, e, hb.lt, hc⟩
theorem ReadT.of_own {base c : Nat} (h : OwnB w base E (.slice A l.length c) l) : ReadT w E A l := fun hn => by
  rcases h.2 with ⟨hv, h0⟩ | ⟨g, cap, cur, hv, _, hh, _⟩
  · omega
  · injection hv with hA _ _
    subst hA
    exact ⟨g, 0, cur, rfl, hh, fun k hk => by rw [Nat.zero_add]; have := h.2; exact OwnB.cell (c := c) (by simpa using h) hk⟩
theorem ReadT.below (h : ReadT w E A l) (hb : Below w.heap.size w w') : ReadT w' E A l := fun hn => by
  obtain ⟨b, o, cs, e, hB, hc⟩ := h hn
  exact ⟨b, o, cs, e, hB.below hb hB.lt, fun k hk => (hb.cell (p := ⟨b, o + k, none⟩) hB.lt).trans (hc k hk)⟩
theorem ReadT.grown {g : Nat} {t : TypeId} {cs : Array Value} (h : ReadT w E A l) (hg : w.grownBy w' (some g)) (hB : Blk w g t cs) (hne : E ≠ t) : ReadT w' E A l := fun hn => by
  obtain ⟨b, o, cs', e, hb, hc⟩ := h hn
  have hbg : b ≠ g := hb.ne_ hB hne
  exact ⟨b, o, cs', e, hb.grown hg (by simpa using hbg), fun k hk => (World.cell?_of_block (hg.block b hb.lt (by simpa using hbg))).trans (hc k hk)⟩
theorem ReadT.drop {b o : Nat} (h : ReadT w E (some ⟨b, o, none⟩) l) (k : Nat) : ReadT w E (some ⟨b, o + k, none⟩) (l.drop k) := fun hn => by
  have hk : k < l.length := by simp at hn; omega
  obtain ⟨b', o', cs, e, hb, hcl⟩ := h (by omega)
  injection e with e
  injection e with e1 e2
  subst e1 e2
  refine ⟨b, o + k, cs, rfl, hb, fun j hj => ?_⟩
  have hj' : k + j < l.length := by simp at hj; omega
  rw [Nat.add_assoc, hcl (k + j) hj']
  simp [List.getD]
theorem ReadT.nil : ReadT w E A [] := fun h => absurd h (by simp)
end

/-- a hasher in block g: its state, what is left over, how many bytes were written -/
def IsG (w : World) (g : Nat) (s : List UInt32) (r : List UInt8) (n : Nat) : Prop :=
  ∃ A c, Blk w g 71 (wvs s ++ [Value.slice A r.length c, Value.int .i64 (n : Int)]).toArray ∧ s.length = 8 ∧ r.length ≤ c ∧ c ≤ 9223372036854775807 ∧ ReadT w 5 A r
/-- .. behind all these bytes -/
def IsH (w : World) (g : Nat) (l : List UInt8) : Prop := IsG w g (st l) (rs l) l.length
theorem IsG.lt {w : World} {g : Nat} {s : List UInt32} {r : List UInt8} {n : Nat} (h : IsG w g s r n) : g < w.heap.size := by
  obtain ⟨A, c, h, _⟩ := h
  exact h.lt
theorem IsG.below {w w' : World} {g : Nat} {s : List UInt32} {r : List UInt8} {n : Nat} (h : IsG w g s r n) (hb : Below w.heap.size w w') : IsG w' g s r n := by
  obtain ⟨A, c, h1, h2, h3, h4, h5⟩ := h
  exact ⟨A, c, h1.below hb h1.lt, h2, h3, h4, h5.below hb⟩
theorem IsG.other {w w' : World} {g k : Nat} {t : TypeId} {cs : Array Value} {s : List UInt32} {r : List UInt8} {n : Nat} (h : IsG w g s r n) (hg : w.grownBy w' (some k)) (hk : g ≠ k) (hB : Blk w k t cs) (hne : 5 ≠ t) : IsG w' g s r n := by
  obtain ⟨A, c, h1, h2, h3, h4, h5⟩ := h
  exact ⟨A, c, h1.grown hg (by simpa using hk), h2, h3, h4, h5.grown hg hB hne⟩
theorem set8 {w : World} {g : Nat} {t : TypeId} {s : List UInt32} {x y : Value} (h : Blk w g t (wvs s ++ [x, y]).toArray) (hs : s.length = 8) (v : Value) : Blk (w.setCell ⟨g, 8, none⟩ v) g t (wvs s ++ [v, y]).toArray := by
  have := Blk.set_ h 8 v
  rw [toArray_set, List.set_append_right _ _ (by rw [wvs_len]; omega), wvs_len, hs] at this
  exact this
theorem set9 {w : World} {g : Nat} {t : TypeId} {s : List UInt32} {x y : Value} (h : Blk w g t (wvs s ++ [x, y]).toArray) (hs : s.length = 8) (v : Value) : Blk (w.setCell ⟨g, 9, none⟩ v) g t (wvs s ++ [x, v]).toArray := by
  have := Blk.set_ h 9 v
  rw [toArray_set, List.set_append_right _ _ (by rw [wvs_len]; omega), wvs_len, hs] at this
  exact this
theorem cell8 {w : World} {g : Nat} {t : TypeId} {s : List UInt32} {x y : Value} (h : Blk w g t (wvs s ++ [x, y]).toArray) (hs : s.length = 8) : w.cell? ⟨g, 8, none⟩ = some x := by
  rw [Blk.cell h, List.getElem?_toArray, List.getElem?_append_right (by rw [wvs_len]; omega), wvs_len, hs]
  rfl
theorem cell9 {w : World} {g : Nat} {t : TypeId} {s : List UInt32} {x y : Value} (h : Blk w g t (wvs s ++ [x, y]).toArray) (hs : s.length = 8) : w.cell? ⟨g, 9, none⟩ = some y := by
  rw [Blk.cell h, List.getElem?_toArray, List.getElem?_append_right (by rw [wvs_len]; omega), wvs_len, hs]
  rfl

theorem info5 : (Tryd.prog.info? 5).map (fun i => (i.zero, i.size, i.bytes)) = some (some (.int .u8 0), 1, 1) := by kernel_rfl

set_option maxRecDepth 100000 in
set_option maxHeartbeats 400000 in
theorem clone_calls (l : List UInt8) (A : Option Addr) (c : Nat) (hc : l.length ≤ c) (hl : l.length ≤ 140737488355328) (w : World) (hr : ReadB w w.heap.size A l) : Calls Tryd.prog 43 #[.slice A l.length c] w
    fun e w' => ∃ v, e = .returned v ∧ OwnB w' w.heap.size 5 v l ∧ Below w.heap.size w w' := by
  obtain ⟨i0, hi0⟩ := isByte_of info5
  have Hi := Lib.hid hi0
  have Hr := Lib.hid hr
  clear hi0 hr
  rcases A with _ | ad
  · have hl0 : l = [] := by
      rcases l with _ | ⟨x, l⟩
      · rfl
      · obtain ⟨_, _, hx, _⟩ := Hr.out (by simp)
        cases hx
    subst hl0
    have hnil := fun (w : World) => Lib.run_eql_slice_nil (P := Tryd.prog) w 22 5 none 0 c 0 0 Tryd.underlying22
    simp only [List.length_nil]
    go_enter Tryd.func43, Tryd.ntmps43
    go_wp2
    go_ret
    exact ⟨_, rfl, OwnB.nil, Below.refl _ _⟩
  · have hnil := fun (w : World) => Lib.run_eql_slice_nil (P := Tryd.prog) w 22 5 (some ad) l.length c 0 0 Tryd.underlying22
    go_enter Tryd.func43, Tryd.ntmps43
    have hown0 : OwnB (w.alloc (.cells #[] 5)) w.heap.size 5 (.slice (some ⟨w.heap.size, 0, none⟩) 0 0) [] := OwnB.lit0 w 5 w.heap.size w.heap.size rfl (Nat.le_refl _)
    have hr0 : ReadB (w.alloc (.cells #[] 5)) w.heap.size (some ad) l := Hr.out.alloc (Nat.le_refl _) _
    have Ho0 := Lib.hid hown0
    have Hr0 := Lib.hid hr0
    clear hown0 hr0
    go_wp2_with (at_builtin; go_loud (refine wpList_appB _ rfl (.tmp 5) (.tmp 6) 22 rfl w.heap.size 5 i0 Tryd.underlying22 Hi.out _ [] rfl Ho0.out w.heap.size (some ad) _ c l rfl rfl Hr0.out (by simp; omega) (by simp) ?_); intro v1 w1 ho1 _ _ hb1)
    go_ret
    rw [List.nil_append] at ho1
    exact ⟨v1, rfl, ho1, ((Below.refl _ _).alloc (Nat.le_refl _) _).trans hb1⟩
theorem st_nil : st [] = first := rfl
theorem wvs_first : #[Value.int .u32 1779033703, .int .u32 3144134277, .int .u32 1013904242, .int .u32 2773480762, .int .u32 1359893119, .int .u32 2600822924, .int .u32 528734635, .int .u32 1541459225] = (wvs first).toArray := rfl
set_option maxRecDepth 100000 in
set_option maxHeartbeats 400000 in
theorem first_calls (w : World) : Calls Tryd.prog 42 #[] w fun e w' => e = .returned (.agg (wvs first).toArray) ∧ Below w.heap.size w w' := by
  go_enter Tryd.func42, Tryd.ntmps42
  go_wp2_with (refine wpList_storeW rfl 68 (.tmp 0) (.tmp 1) rfl w.heap.size 68 (List.replicate 8 0) first rfl rfl (BlkW.new_ _ _ _ _ _ (by rfl) (by rfl)) (by rfl) (by kernel_rfl) ?_; intro w2 hW2 hg2)
  refine bodyPost_ret (results_cell_row (p := 0) (ty := 68) (by kernel_rfl) _ w2 w.heap.size 68 (wvs first).toArray (0, 0) _ rfl hW2 Tryd.underlying68 rfl (by kernel_rfl)) rfl ⟨rfl, ?_⟩
  exact only_after ((Below.refl _ _).alloc (Nat.le_refl _) _) hg2 (Nat.le_refl _)
set_option maxRecDepth 100000 in
set_option maxHeartbeats 400000 in
theorem new_calls (w : World) : Calls Tryd.prog 16 #[] w fun e w' => ∃ g, e = .returned (.pointer (some ⟨g, 0, none⟩)) ∧ w.heap.size ≤ g ∧ IsH w' g [] ∧ Below w.heap.size w w' := by
  go_enter Tryd.func16, Tryd.ntmps16
  go_wp2_with fail
  refine (first_calls w).mono ?_
  rintro e w1 ⟨rfl, hb1⟩
  have Hb1 := Lib.hid hb1
  clear hb1
  rw [← wvs_first]
  go_wp2_with fail
  go_ret
  exact ⟨w1.heap.size, rfl, Hb1.out.size, ⟨none, 0, heap_alloc_new _ _, rfl, Nat.le_refl _, by omega, ReadT.nil⟩, Hb1.out.alloc Hb1.out.size _⟩
set_option maxHeartbeats 400000 in
theorem len_calls (w : World) (g : Nat) (l : List UInt8) (h : IsH w g l) : Calls Tryd.prog 19 #[.pointer (some ⟨g, 0, none⟩)] w fun e w' => e = .returned (.int .i64 (l.length : Int)) ∧ w = w' := by
  obtain ⟨A, c, h1, h2, h3, h4, h5⟩ := h
  have hc := cell9 h1 h2
  clear h1 h2 h3 h4 h5
  go_enter Tryd.func19, Tryd.ntmps19
  go_wp2
  go_ret
  exact ⟨rfl, rfl⟩
set_option maxHeartbeats 400000 in
theorem len_nil (w : World) : Calls Tryd.prog 19 #[.pointer none] w fun e w' => e = .returned (.int .i64 0) ∧ w = w' := by
  go_enter Tryd.func19, Tryd.ntmps19
  go_wp2
  go_ret
  exact ⟨rfl, rfl⟩
set_option maxHeartbeats 400000 in
theorem write_nil (w : World) (A : Option Addr) (n c : Nat) : Calls Tryd.prog 17 #[.pointer none, .slice A n c] w fun e w' => e = .returned (.tuple #[]) ∧ w = w' := by
  go_enter Tryd.func17, Tryd.ntmps17
  go_wp2
  refine bodyPost_ret (results_none rfl _ _ _) rfl ⟨rfl, rfl⟩
set_option maxHeartbeats 400000 in
theorem fork_nil (w : World) : Calls Tryd.prog 20 #[.pointer none] w fun e w' => e = .returned (.pointer none) ∧ w = w' := by
  go_enter Tryd.func20, Tryd.ntmps20
  go_wp2
  go_ret
  exact ⟨rfl, rfl⟩
end Sm
end Go.Proofs.YtlkcibhdnicpkaaDoor

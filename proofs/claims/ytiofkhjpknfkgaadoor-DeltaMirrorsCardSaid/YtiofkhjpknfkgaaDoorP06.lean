/- A region that draws its order, holds calls and loads, and ends in a store to what it has read: one walk serves every order. F holds till the operation k comes up, which waits for all that lean on F. -/
import Derived.Test.YtiofkhjpknfkgaaDoorP01
import Derived.Test.YtiofkhjpknfkgaaDoorP02
import Derived.Test.YtiofkhjpknfkgaaDoorP03
import Derived.Test.YtiofkhjpknfkgaaDoorP04
import Derived.Test.YtiofkhjpknfkgaaDoorP05
import Derived.Deep.RegionHeld3
import Derived.Below
import Derived.Test.YtiofkhjpknfkgaaDoorProg
import Derived.Stop.BytesEq
import Derived.Maps.OwnSet
import Derived.Maps.Views
namespace Go.Proofs.YtiofkhjpknfkgaaDoor
namespace CanL
set_option linter.unusedVariables false
section
variable {P : Program} {ops : Array Oper} {Q : Exit → Act → World → Prop} {F : World → Prop} {k : Nat}

def St (F : World → Prop) (k : Nat) (listed : Array Bool) (w : World) : Prop := listed.getD k false = false → F w
theorem St.mono {listed : Array Bool} {w : World} (h : St F k listed w) (i : Nat) : St F k (listed.setIfInBounds i true) w := fun h1 => h (by
  cases hb : listed.getD k false
  · rfl
  · rw [getD_set_true hb] at h1; cases h1)
def wpAnyL (P : Program) (ops : Array Oper) (Q : Exit → Act → World → Prop) (F : World → Prop) (k : Nat) : Nat → Array Bool → Act → World → Prop
  | 0, listed, a, w => Region.ready .any ops listed = [] ∧ Q .normal a w
  | fuel + 1, listed, a, w => (Region.ready .any ops listed = [] → Q .normal a w) ∧
    ∀ i ∈ Region.ready .any ops listed, wpOp P ops Q i (fun a' w' => St F k (listed.setIfInBounds i true) w' ∧ wpAnyL P ops Q F k fuel (listed.setIfInBounds i true) a' w') a w
theorem wpAny_of_L : ∀ (fuel : Nat) (listed : Array Bool) (a : Act) (w : World), wpAnyL P ops Q F k fuel listed a w → wpAny P .any ops Q fuel listed a w
  | 0, _, _, _, h => h
  | fuel + 1, _, _, _, h => ⟨h.1, fun i hi => wpOp_mono (fun a' w' h' => wpAny_of_L fuel _ a' w' h'.2) (h.2 i hi)⟩
/-- the operation k waits for i -/
def waits (ops : Array Oper) (k i : Nat) : Bool := match ops[k]? with | some o => o.after.any fun e => Region.binds .any e && e.on == i | none => true

theorem unlisted_of_ready {listed : Array Bool} {i : Nat} {oj : Oper} (hr : i ∈ Region.ready .any ops listed) (hall : ∀ e ∈ oj.after, Region.binds .any e = true → listed.getD e.on false = true) : ∀ e ∈ oj.after, Region.binds .any e = true → e.on ≠ i := fun e he hb heq => by
  have h1 := hall e he hb
  have h0 := (mem_ready.1 hr).1
  rw [heq] at h1
  rcases Nat.lt_or_ge i listed.size with h' | h'
  · simp [h'] at h0 h1; rw [h0] at h1; cases h1
  · simp [Array.getElem?_eq_none h'] at h1

/-- what yields under F, before k, may be taken first -/
theorem first {i : Nat} {oi : Oper} {v : Value} (hi : ops[i]? = some oi) (hsel : ∀ (j : Nat) (o : Oper) cs b, ops[j]? = some o → o.op ≠ .select cs b)
    (hQ : ∀ c a w, Q (.panic c) (a.put oi.dst v) w → Q (.panic c) a w) (hk : waits ops k i = true) :
    ∀ (fuel : Nat) (listed : Array Bool) (a : Act) (w : World),
      (∀ j oj, ops[j]? = some oj → j ≠ i → listed.getD j true = false → (∀ e ∈ oj.after, Region.binds .any e = true → e.on ≠ i) → oi.apart ops oj = true) →
      i ∈ Region.ready .any ops listed → YieldsIf P ops F oi v a → listed.getD k false = false → F w →
      wpAnyL P ops Q F k fuel (listed.setIfInBounds i true) (a.put oi.dst v) w → wpAnyL P ops Q F k (fuel + 1) listed a w := by
  intro fuel
  induction fuel with
  | zero =>
    intro listed a w _ hr hy hkl hF H
    refine ⟨fun h => (by rw [h] at hr; cases hr), fun j hj => ?_⟩
    by_cases hji : j = i
    · subst hji; exact hy.wpOp hi hF ⟨fun _ => hF, H⟩
    · have := ready_mono hj hji
      rw [H.1] at this
      cases this
  | succ fuel ih =>
    intro listed a w hfree hr hy hkl hF H
    refine ⟨fun h => (by rw [h] at hr; cases hr), fun j hj => ?_⟩
    by_cases hji : j = i
    · subst hji; exact hy.wpOp hi hF ⟨fun _ => hF, H⟩
    · have h1 := H.2 j (ready_mono hj hji)
      obtain ⟨hjun, oj, hoj, hall⟩ := mem_ready.1 hj
      have hnot := unlisted_of_ready hr hall
      have hjk : j ≠ k := fun e => by
        subst e
        unfold waits at hk
        rw [hoj] at hk
        simp only [Array.any_eq_true', Bool.and_eq_true, beq_iff_eq] at hk
        obtain ⟨e, he, hb, heq⟩ := hk
        exact hnot e he hb heq
      have hkl' : (listed.setIfInBounds j true).getD k false = false := by rw [getD_set_ne false hjk]; exact hkl
      have h2 := wpOp_putIf hoj (hfree j oj hoj hji hjun hnot) (fun cs b => hsel i oi cs b hi) (fun cs b => hsel j oj cs b hoj) hQ hy h1
      have hfree' : ∀ m om, ops[m]? = some om → m ≠ i → (listed.setIfInBounds j true).getD m true = false →
          (∀ e ∈ om.after, Region.binds .any e = true → e.on ≠ i) → oi.apart ops om = true := fun m om hm hmi hun hno => by
        refine hfree m om hm hmi ?_ hno
        by_cases hjm : j = m
        · subst hjm; exact hjun
        · rw [getD_set_ne true hjm] at hun; exact hun
      refine wpOp_mono (fun a' w' h3 => ?_) h2
      obtain ⟨hy', hS', h4⟩ := h3
      have hS2 : F w' := hS' (by rw [Array.setIfInBounds_comm _ _ (Ne.symm hji)]; rw [getD_set_ne false (fun e => by
        subst e
        unfold waits at hk
        rw [hi] at hk
        simp only [Array.any_eq_true', Bool.and_eq_true, beq_iff_eq] at hk
        obtain ⟨e, he, hb, heq⟩ := hk
        obtain ⟨hun, oi', hoi', hall'⟩ := mem_ready.1 hr
        rw [hi] at hoi'
        injection hoi' with hoi'
        subst hoi'
        exact unlisted_of_ready hr hall' e he hb heq)]; exact hkl')
      refine ⟨fun _ => hS2, ih (listed.setIfInBounds j true) a' w' hfree' (ready_mono hr (Ne.symm hji)) hy' hkl' hS2 ?_⟩
      rw [Array.setIfInBounds_comm _ _ hji]
      exact h4

/-- what yields in whatever world may be taken first -/
theorem firstAll {i : Nat} {oi : Oper} {v : Value} (hi : ops[i]? = some oi) (hsel : ∀ (j : Nat) (o : Oper) cs b, ops[j]? = some o → o.op ≠ .select cs b)
    (hQ : ∀ c a w, Q (.panic c) (a.put oi.dst v) w → Q (.panic c) a w) (hik : i ≠ k) :
    ∀ (fuel : Nat) (listed : Array Bool) (a : Act) (w : World),
      (∀ j oj, ops[j]? = some oj → j ≠ i → listed.getD j true = false → (∀ e ∈ oj.after, Region.binds .any e = true → e.on ≠ i) → oi.apart ops oj = true) →
      i ∈ Region.ready .any ops listed → Yields P ops oi v a → St F k listed w →
      wpAnyL P ops Q F k fuel (listed.setIfInBounds i true) (a.put oi.dst v) w → wpAnyL P ops Q F k (fuel + 1) listed a w := by
  intro fuel
  induction fuel with
  | zero =>
    intro listed a w _ hr hy hS H
    refine ⟨fun h => (by rw [h] at hr; cases hr), fun j hj => ?_⟩
    by_cases hji : j = i
    · subst hji; exact hy.wpOp hi ⟨hS.mono _, H⟩
    · have := ready_mono hj hji
      rw [H.1] at this
      cases this
  | succ fuel ih =>
    intro listed a w hfree hr hy hS H
    refine ⟨fun h => (by rw [h] at hr; cases hr), fun j hj => ?_⟩
    by_cases hji : j = i
    · subst hji; exact hy.wpOp hi ⟨hS.mono _, H⟩
    · have h1 := H.2 j (ready_mono hj hji)
      obtain ⟨hjun, oj, hoj, hall⟩ := mem_ready.1 hj
      have hnot := unlisted_of_ready hr hall
      have h2 := wpOp_put hoj (hfree j oj hoj hji hjun hnot) (fun cs b => hsel i oi cs b hi) (fun cs b => hsel j oj cs b hoj) hQ hy h1
      have hfree' : ∀ m om, ops[m]? = some om → m ≠ i → (listed.setIfInBounds j true).getD m true = false →
          (∀ e ∈ om.after, Region.binds .any e = true → e.on ≠ i) → oi.apart ops om = true := fun m om hm hmi hun hno => by
        refine hfree m om hm hmi ?_ hno
        by_cases hjm : j = m
        · subst hjm; exact hjun
        · rw [getD_set_ne true hjm] at hun; exact hun
      refine wpOp_mono (fun a' w' h3 => ?_) h2
      obtain ⟨hy', hS', h4⟩ := h3
      have hS2 : St F k (listed.setIfInBounds j true) w' := fun h5 => hS' (by rw [Array.setIfInBounds_comm _ _ (Ne.symm hji), getD_set_ne false hik]; exact h5)
      refine ⟨hS2, ih (listed.setIfInBounds j true) a' w' hfree' (ready_mono hr (Ne.symm hji)) hy' hS2 ?_⟩
      rw [Array.setIfInBounds_comm _ _ hji]
      exact h4

/-- the walk: (i, 0) a call, a store ..; (i, 1) yields under F; (i, 2) yields in whatever world -/
def wpCan (P : Program) (ops : Array Oper) (Q : Exit → Act → World → Prop) (F : World → Prop) (k : Nat) : List (Nat × Nat) → Act → World → Prop
  | [], a, w => Q .normal a w
  | (i, 0) :: rest, a, w => ∃ o, ops[i]? = some o ∧ ((Region.wanted o (yielded ops a.tmps) = false ∧ wpCan P ops Q F k rest (a.put o.dst undef) w) ∨
      wpOp P ops Q i (fun a w => (i = k ∨ F w) ∧ wpCan P ops Q F k rest a w) a w)
  | (i, 1) :: rest, a, w => ∃ o v, ops[i]? = some o ∧ YieldsIf P ops F o v a ∧ wpCan P ops Q F k rest (a.put o.dst v) w
  | (i, _ + 2) :: rest, a, w => ∃ o v, ops[i]? = some o ∧ Yields P ops o v a ∧ wpCan P ops Q F k rest (a.put o.dst v) w
def canB (ops : Array Oper) (k : Nat) : List (Nat × Nat) → Array Bool → Bool
  | [], listed => (Region.ready .any ops listed).isEmpty
  | (i, 0) :: rest, listed => (Region.ready .any ops listed == [i]) && canB ops k rest (listed.setIfInBounds i true) && (!listed.getD k false || rest.all fun x => x.2 == 2) && (i < listed.size)
  | (i, 1) :: rest, listed => (Region.ready .any ops listed).contains i && Region.free .any ops listed i && waits ops k i && !listed.getD k false && canB ops k rest (listed.setIfInBounds i true)
  | (i, _ + 2) :: rest, listed => (Region.ready .any ops listed).contains i && Region.free .any ops listed i && (i != k) && canB ops k rest (listed.setIfInBounds i true)

theorem wpAny_can (hs : Region.noSelect ops = true) (hQ : ∀ c (dst : Option Tmp) v a w, Q (.panic c) (a.put dst v) w → Q (.panic c) a w) :
    ∀ (ord : List (Nat × Nat)) (listed : Array Bool) (a : Act) (w : World), St F k listed w → canB ops k ord listed = true → wpCan P ops Q F k ord a w → wpAnyL P ops Q F k ord.length listed a w
  | [], _, _, _, _, hB, h => ⟨by simpa [canB] using hB, h⟩
  | (i, 0) :: rest, listed, a, w, hw, hB, h => by
    simp only [canB, Bool.and_eq_true, beq_iff_eq, decide_eq_true_eq] at hB
    obtain ⟨⟨⟨hr, hB'⟩, _⟩, hsz⟩ := hB
    obtain ⟨o, ho, h⟩ := h
    refine ⟨fun h0 => (by rw [hr] at h0; cases h0), fun j hj => ?_⟩
    rw [hr, List.mem_singleton] at hj
    subst hj
    rcases h with ⟨hg, h⟩ | h
    · unfold wpOp
      simp only [ho, hg, Bool.false_eq_true, if_false]
      exact ⟨hw.mono _, wpAny_can hs hQ rest _ _ _ (hw.mono _) hB' h⟩
    · refine wpOp_mono (fun a w h1 => ?_) h
      have hS : St F k (listed.setIfInBounds j true) w := fun h5 => by
        rcases h1.1 with rfl | hF
        · simp [hsz] at h5
        · exact hF
      exact ⟨hS, wpAny_can hs hQ rest _ a w hS hB' h1.2⟩
  | (i, 1) :: rest, listed, a, w, hw, hB, h => by
    simp only [canB, Bool.and_eq_true, Bool.not_eq_true'] at hB
    obtain ⟨⟨⟨⟨hr, hf⟩, hk⟩, hkl⟩, hB'⟩ := hB
    obtain ⟨o, v, ho, hy, h⟩ := h
    exact first ho (Region.noSelect_spec hs) (fun c a w => hQ c o.dst v a w) hk rest.length listed a w (Region.free_spec ho hf) (by simpa using hr) hy hkl (hw hkl) (wpAny_can hs hQ rest _ _ _ (hw.mono _) hB' h)
  | (i, _ + 2) :: rest, listed, a, w, hw, hB, h => by
    simp only [canB, Bool.and_eq_true, bne_iff_ne] at hB
    obtain ⟨⟨⟨hr, hf⟩, hik⟩, hB'⟩ := hB
    obtain ⟨o, v, ho, hy, h⟩ := h
    exact firstAll ho (Region.noSelect_spec hs) (fun c a w => hQ c o.dst v a w) hik rest.length listed a w (Region.free_spec ho hf) (by simpa using hr) hy hw (wpAny_can hs hQ rest _ _ _ (hw.mono _) hB' h)

theorem region {id : Nat} {l : List Oper} {a : Act} {w : World} (F : World → Prop) (k : Nat) (ord : List (Nat × Nat)) (hm : P.follows .mixedOrders = true)
    (hB : (Region.noSelect l.toArray && (ord.length == l.length) && canB l.toArray k ord (Array.replicate l.length false)) = true) (hF : F w.drew)
    (h : wpCan P l.toArray (NoPanic Q) F k ord a w.drew) : (Code.region id l.toArray true).wp P Q a w := by
  simp only [Bool.and_eq_true, beq_iff_eq] at hB
  refine wp_region_noPanic (wp_region_any hm ?_)
  have := wpAny_of_L _ _ _ _ (wpAny_can (P := P) (Q := NoPanic Q) (F := F) (k := k) hB.1.1 (fun c dst v a w h => h.elim) ord (Array.replicate l.length false) a w.drew (fun _ => hF) hB.2 h)
  rw [hB.1.2] at this
  simpa using this

variable {i : Nat} {o : Oper} {a : Act} {w : World} {b : Nat} {rest : List (Nat × Nat)}
theorem held (hi : ops[i]? = some o) (hg : Region.wanted o (yielded ops a.tmps) = true) (hv : ∃ v, (∀ w', F w' → (execOp a.eval o).run P w' = .ok (.value v) w') ∧ ∀ K : Act → Prop, (∀ a, wpCan P ops Q F k rest a w → K a) → K (a.put o.dst v)) : wpCan P ops Q F k ((i, 1) :: rest) a w :=
  let ⟨v, hv, h⟩ := hv; ⟨o, v, hi, .inl ⟨hg, hv⟩, h _ fun _ h => h⟩
theorem pur (hi : ops[i]? = some o) (hg : Region.wanted o (yielded ops a.tmps) = true) (hv : ∃ v, (∀ w', (execOp a.eval o).run P w' = .ok (.value v) w') ∧ ∀ K : Act → Prop, (∀ a, wpCan P ops Q F k rest a w → K a) → K (a.put o.dst v)) : wpCan P ops Q F k ((i, 2) :: rest) a w :=
  let ⟨v, hv, h⟩ := hv; ⟨o, v, hi, .inl ⟨hg, hv⟩, h _ fun _ h => h⟩
theorem skip (hi : ops[i]? = some o) (hg : Region.wanted o (yielded ops a.tmps) = false) (h : ∀ K : Act → Prop, (∀ a, wpCan P ops Q F k rest a w → K a) → K (a.put o.dst undef)) : wpCan P ops Q F k ((i, b) :: rest) a w :=
  match b with
  | 0 => ⟨o, hi, .inl ⟨hg, h _ fun _ h => h⟩⟩
  | 1 => ⟨o, undef, hi, .inr ⟨hg, rfl⟩, h _ fun _ h => h⟩
  | _ + 2 => ⟨o, undef, hi, .inr ⟨hg, rfl⟩, h _ fun _ h => h⟩
theorem imp (hi : ops[i]? = some o) (h : ∀ K : Act → World → Prop, Go.RowKit.Hid (∀ a w, F w → wpCan P ops Q F k rest a w → K a w) → if Region.wanted o (yielded ops a.tmps) then o.wp P a w K Q else K (a.put o.dst undef) w) : wpCan P ops Q F k ((i, 0) :: rest) a w := by
  refine ⟨o, hi, .inr ?_⟩
  have := h (fun a w => (i = k ∨ F w) ∧ wpCan P ops Q F k rest a w) (Lib.hid fun _ _ hS h => ⟨.inr hS, h⟩)
  unfold wpOp
  simp only [hi]
  split
  · rename_i hw; rw [if_pos hw] at this; exact .inl this
  · rename_i hw; rw [if_neg hw] at this; exact this
/-- the operation k itself -/
theorem last (hi : ops[k]? = some o) (h : ∀ K : Act → World → Prop, Go.RowKit.Hid (∀ a w, wpCan P ops Q F k rest a w → K a w) → if Region.wanted o (yielded ops a.tmps) then o.wp P a w K Q else K (a.put o.dst undef) w) : wpCan P ops Q F k ((k, 0) :: rest) a w := by
  refine ⟨o, hi, .inr (wpOp_mono (fun a w h => ⟨.inl rfl, h⟩) (K := wpCan P ops Q F k rest) ?_)⟩
  have := h (wpCan P ops Q F k rest) (Lib.hid fun _ _ h => h)
  unfold wpOp
  simp only [hi]
  split
  · rename_i hw; rw [if_pos hw] at this; exact .inl this
  · rename_i hw; rw [if_neg hw] at this; exact this
theorem done (h : Q .normal a w) : wpCan P ops (NoPanic Q) F k [] a w := h
end
end CanL
end Go.Proofs.YtiofkhjpknfkgaaDoor
/- A fork of a hasher; the sum of parts. -/
namespace Go.Proofs.YtiofkhjpknfkgaaDoor
namespace Sm
open Go.RowKit Ba
set_option linter.unusedVariables false
attribute [local go_sem] U_add U_add' U_xor U_and U_or U_of_u8
theorem st_list (l : List UInt8) : ∃ a b c d e f g h, st l = [a, b, c, d, e, f, g, h] := by
  have hl : (st l).length = 8 := stk_len _ _
  match hs : st l, hl with
  | [a, b, c, d, e, f, g, h], _ => exact ⟨a, b, c, d, e, f, g, h, rfl⟩
set_option maxRecDepth 100000 in
set_option maxHeartbeats 1000000 in
theorem sum_nil (w : World) : Calls Tryd.prog 44 #[.pointer none] w fun e w' => e = .returned (.agg (bvs (List.replicate 32 0)).toArray) ∧ Below w.heap.size w w' := by
  go_enter Tryd.func44, Tryd.ntmps44
  go_wp2_with (first
    | (refine wpList_load_blk rfl 42 (.tmp 3) rfl (w.heap.size + 1) 0 42 [] (bvs (List.replicate 32 0)) [] rfl (by simpa using (by rw [bvs_rep32]; exact heap_alloc2_new _ _ _)) rfl _ Tryd.underlying42 rfl (by kernel_rfl) ?_)
    | (refine wpList_store_blk rfl 42 (.tmp 2) (.tmp 10) rfl w.heap.size 0 42 [] (bvs (List.replicate 32 0)) [] (bvs (List.replicate 32 0)) rfl rfl (by rw [bvs_rep32]; exact Blk.alloc (heap_alloc_new _ _) _) rfl rfl (by kernel_rfl) (bvs_one _) ?_; intro w9 hR9 hg9))
  have hb : Below w.heap.size w w9 := only_after (((Below.refl _ _).alloc (Nat.le_refl _) _).alloc (by simp) _) hg9 (Nat.le_refl _)
  refine bodyPost_ret (results_cell_row (p := 2) (ty := 42) (by kernel_rfl) _ w9 w.heap.size 42 (bvs (List.replicate 32 0)).toArray (0, 0) _ rfl (by simp only [List.nil_append, List.append_nil] at hR9; exact hR9) Tryd.underlying42 rfl (by kernel_rfl)) rfl ⟨rfl, hb⟩
theorem flat_take (ps : List (List UInt8)) (k : Nat) (h : k < ps.length) : (ps.take (k + 1)).flatten = (ps.take k).flatten ++ ps.getD k [] := by
  rw [List.take_succ_eq_append_getElem h, List.flatten_append]
  simp [List.getD, h]
theorem flat_le (ps : List (List UInt8)) (k : Nat) : (ps.take k).flatten.length ≤ ps.flatten.length := by
  have : ps.flatten = (ps.take k).flatten ++ (ps.drop k).flatten := by rw [← List.flatten_append, List.take_append_drop]
  rw [this, List.length_append]; omega
theorem hash_len : ∀ l, (sha l).length = 32 := fun l => out_len _
set_option maxRecDepth 100000 in
set_option maxHeartbeats 1000000 in
theorem of_calls (ps : List (List UInt8)) (A : Option Addr) (c : Nat) (w : World) (h : ReadBB w w.heap.size A ps) (htab : Tab w) (hpc : ps.length ≤ c) (hcm : c ≤ 9223372036854775807) (hm : ∀ p ∈ ps, p.length ≤ 140737488351232) (hsum : ps.flatten.length ≤ 1152921504606846975) :
    Calls Tryd.prog 16 #[.slice A ps.length c] w fun e w' => e = .returned (.agg (bvs (sha ps.flatten)).toArray) ∧ Below w.heap.size w w' := by
  have H := Lib.hid h
  have Htab := Lib.hid htab
  have Hm := Lib.hid hm
  clear h htab hm
  go_enter Tryd.func16, Tryd.ntmps16
  go_wp2_with fail
  refine (new_calls _).mono ?_
  rintro e w1 ⟨g, rfl, hg1, hI1, hb1⟩
  have hs0 : ∀ o, (w.alloc o).heap.size = w.heap.size + 1 := fun o => by simp
  rw [hs0] at hg1 hb1
  have hbw : Below w.heap.size w w1 := ((Below.refl _ _).alloc (Nat.le_refl _) _).trans (hb1.mono (by omega))
  have hR : Blk w1 w.heap.size 42 (bvs (List.replicate 32 0)).toArray := Blk.below (by rw [bvs_rep32]; exact heap_alloc_new _ _) hb1 (by omega)
  have HI1 := Lib.hid hI1
  have Hbw := Lib.hid hbw
  have HR := Lib.hid hR
  have Htab1 := Lib.hid (Htab.out.below hbw)
  clear hI1 hbw hR hs0 hb1
  have hg0 : 0 < g := by omega
  go_wp2_with fail
  go_loopw [5, 9] (fun _ i wr => ∃ k : Nat, k ≤ ps.length ∧ i = .int .i64 k ∧ IsH wr g (ps.take k).flatten ∧ w1.grownBy wr (some g)) (fun _ i _ => ps.length - (intOf i).toNat)
  case atStart => exact ⟨0, Nat.zero_le _, rfl, HI1.out, World.grownBy.refl w1 _⟩
  case round =>
    obtain ⟨k, hk, rfl, hI, hgw⟩ := hrel
    have hbr : Below w.heap.size w wr := Hbw.out.trans (below_of_only hgw (by omega) Hbw.out.size)
    by_cases hkl : k < ps.length
    · obtain ⟨b, o, rfl, hb, hc⟩ := H.out (by omega)
      obtain ⟨Ak, ck, q1, q2, q3, q4⟩ := hc k hkl
      have hq1 := (hbr.cell (p := ⟨b, o + k, none⟩) hb).trans q1
      have hft := flat_take ps k hkl
      have hfl := flat_le ps (k + 1)
      rw [hft, List.length_append] at hfl
      have hlk : (ps.getD k []).length ≤ 140737488351232 := Hm.out _ (by simp [List.getD, hkl])
      have hq4 := q4.below hbr
      have Hft := Lib.hid hft
      generalize ps.getD k [] = pk at *
      have HI := Lib.hid hI
      have Hgw := Lib.hid hgw
      have Hbr := Lib.hid hbr
      have Hq4 := Lib.hid hq4
      have Htr := Lib.hid (Htab1.out.grown hgw hg0)
      clear hI hgw hbr hc q1 q4 hq4 hft
      go_wp2_with fail
      refine (write_calls wr g w.heap.size (ps.take k).flatten pk Ak ck HI.out hg0 Htr.out Hq4.out (by omega) q2 q3 hlk (by omega)).mono ?_
      rintro e w5 ⟨rfl, hI5, hg5⟩
      have HI5 := Lib.hid hI5
      have Hg5 := Lib.hid (only_trans Hgw.out hg5)
      clear hI5 hg5
      go_wp2
      go_roundw
      case rel => exact ⟨k + 1, by omega, by go_num, by rw [Hft.out]; exact HI5.out, Hg5.out⟩
      case measure => simp [intOf]; omega
    · have hkk : k = ps.length := by omega
      rw [hkk, List.take_length] at hI
      have Htr := Lib.hid (Htab1.out.grown hgw hg0)
      have HI := Lib.hid hI
      have HRr := Lib.hid (HR.out.grown hgw (by simp; omega))
      have Hbr := Lib.hid hbr
      clear hI hgw hbr hkk hk
      go_wp2_with fail
      refine (sum_calls wr g ps.flatten HI.out hg0 Htr.out hsum).mono ?_
      rintro e w5 ⟨rfl, hb5⟩
      have hR5 := HRr.out.below hb5 HRr.out.lt
      have HR5 := Lib.hid hR5
      have Hb5 := Lib.hid (Hbr.out.trans (hb5.mono Hbr.out.size))
      clear hR5 hb5
      have hlo := hash_len ps.flatten
      have Hlo := Lib.hid hlo
      clear hlo
      go_wp2_with (refine wpList_store_blk rfl 42 (.tmp 2) (.tmp 18) rfl w.heap.size 0 42 [] (bvs (List.replicate 32 0)) [] (bvs (sha ps.flatten)) rfl rfl (by simpa using HR5.out) rfl (by rw [bvs_length, bvs_length, Hlo.out]; rfl) (by rw [bvs_length, Hlo.out]; kernel_rfl) (bvs_one _) ?_; intro w9 hR9 hg9)
      refine bodyPost_ret (results_cell_row (p := 2) (ty := 42) (by kernel_rfl) _ w9 w.heap.size 42 (bvs (sha ps.flatten)).toArray (0, 0) _ rfl (by simp only [List.nil_append, List.append_nil] at hR9; exact hR9) Tryd.underlying42 rfl (by rw [List.size_toArray, bvs_length, Hlo.out]; kernel_rfl)) rfl ⟨rfl, Hb5.out.trans (below_of_only hg9 (Nat.le_refl _) Hb5.out.size)⟩
end Sm
end Go.Proofs.YtiofkhjpknfkgaaDoor
/- A block's sums in memory. -/
namespace Go.Proofs.YtiofkhjpknfkgaaDoor
namespace Bk
open Go.RowKit Ba Sm Ro
set_option linter.unusedVariables false
def sgv (s : Sg) : List Value := .int .u32 (s.1 : Int) :: bvs s.2
def WfS (s : Sg) : Prop := s.1 < 4294967296 ∧ s.2.length = 32
theorem sgv_len {s : Sg} (h : s.2.length = 32) : (sgv s).length = 33 := by unfold sgv; rw [List.length_cons, bvs_length, h]
theorem sgv_one (s : Sg) : ∀ u ∈ sgv s, u.oneCell' = true := by
  intro u hu
  rcases List.mem_cons.1 hu with rfl | hu
  · rfl
  · exact bvs_one _ u hu
theorem sgOf_wf (x : List UInt8) : WfS (sgOf x) := ⟨rsum_lt x, hash_len x⟩
theorem sgv_wf (l : List Sg) (h : ∀ s ∈ l, WfS s) : RWf sgv 33 l := fun x hx => ⟨sgv_len (h x hx).2, sgv_one x⟩
theorem infoSig : (Tryd.prog.info? 60).map (fun i => (i.zero.map (·.cells.size), i.size, i.bytes)) = some (some 33, 33, 36) := by kernel_rfl
theorem info5 : (Tryd.prog.info? 5).map (fun i => (i.zero, i.size, i.bytes)) = some (some (.int .u8 0), 1, 1) := by kernel_rfl
theorem signK_wf (size : Nat) (b : List UInt8) (k : Nat) : ∀ s ∈ signK size b k, WfS s := by
  intro s hs
  unfold signK at hs
  obtain ⟨i, _, rfl⟩ := List.mem_map.1 hs
  exact sgOf_wf _
theorem run_sig (a : Nat) (h : List UInt8) (hl : h.length = 32) (w : World) : (Instr.build 60 #[(0, .int .u32 (a : Int)), (1, .agg (bvs h).toArray)]).run Tryd.prog w = .ok (.agg (sgv (a, h)).toArray) w := by
  refine run_buildL w _ _ (.int .u32 0 :: List.replicate 32 (.int .u8 0)) [(0, 1), (1, 32)] (by kernel_rfl) _ ?_
  have h1 : (bvs h).length = 32 := by rw [bvs_length, hl]
  simp only [fillL, List.getElem?_cons_zero, List.getElem?_cons_succ, Value.cells]
  simp [h1, sgv]
end Bk
end Go.Proofs.YtiofkhjpknfkgaaDoor
/- A map from 32-bit numbers whose elements are any values: what it holds, as a function of the key; its operations. -/
namespace Go.Proofs.YtiofkhjpknfkgaaDoor
namespace Ba
open Go.RowKit
set_option linter.unusedVariables false
def anyElem (v : Value) : Option (DataW Value × List MemPlace) := some (.held v, [])
def key32 (k : Nat) : Lit := .int .u32 (k : Int)
/-- block b is a map of at most n entries that holds f -/
def IsM (P : Program) (K : TypeId) (w : World) (b n : Nat) (f : Nat → Option Value) : Prop :=
  ∃ D : DataW Value, w.ownsMap P K anyElem b n D ∧ ∀ k, k < 4294967296 → Maps.has D (key32 k) = (f k).isSome ∧ ∀ z, D.atKey (key32 k) (.held z) = .held ((f k).getD z)
section
variable {P : Program} {K : TypeId} {w w' : World} {b n : Nat} {f : Nat → Option Value}
theorem IsM.lt (h : IsM P K w b n f) : b < w.heap.size := by obtain ⟨D, h, _⟩ := h; exact h.lt
theorem IsM.below (h : IsM P K w b n f) {B : Nat} (hb : Below B w w') (hB : b < B) : IsM P K w' b n f := by
  have hlt := h.lt
  obtain ⟨D, ⟨es, cl, h1, h2⟩, h3⟩ := h
  exact ⟨D, ⟨es, cl, (hb.block b hB).trans h1, h2⟩, h3⟩
theorem IsM.grown (h : IsM P K w b n f) {row : Option Nat} (hg : w.grownBy w' row) (hne : some b ≠ row) : IsM P K w' b n f := by
  obtain ⟨D, h, h3⟩ := h
  exact ⟨D, h.kept hg hne, h3⟩
theorem IsM.mono (h : IsM P K w b n f) {n' : Nat} (hn : n ≤ n') : IsM P K w b n' f := by
  obtain ⟨D, h, h3⟩ := h
  exact ⟨D, h.mono hn, h3⟩
theorem IsM.made (w : World) : IsM P K (w.alloc (.map #[] 0)) w.heap.size 0 (fun _ => none) := by
  refine ⟨.map [], World.ownsMap_made w P K _, fun k _ => ⟨rfl, fun z => rfl⟩⟩
theorem key32_wf {k : Nat} (hk : k < 4294967296) : (key32 k).wf = true := by
  unfold key32
  have h1 : IntKind.u32.min = 0 := by decide
  have h2 : IntKind.u32.max = 4294967295 := by decide
  simp only [Lit.wf, h1, h2, Bool.and_eq_true, decide_eq_true_eq]
  omega
theorem IsM.look {t e : TypeId} (h : IsM P K w b n f) (hK : P.underlying K = some (.int .u32)) (ht : P.underlying t = some (.map K e)) {z : Value} (hz : (zeroValue e).run P w = .ok z w) {k : Nat} (hk : k < 4294967296) :
    (Instr.lookup t (.map (some b)) (.int .u32 (k : Int)) false).run P w = .ok ((f k).getD z) w := by
  obtain ⟨D, h, h3⟩ := h
  obtain ⟨v, ps, hr, hv⟩ := h.lookup (Go.Maps.int_keyed hK) ht hz (show anyElem z = some (.held z, []) from rfl) (Go.Maps.keyOf_int_mk hK (key32_wf hk))
  have := (h3 k hk).2 z
  unfold key32 at this
  rw [this] at hv
  simp only [anyElem, Option.some.injEq, Prod.mk.injEq, DataW.held.injEq] at hv
  rw [hr, hv.1]
theorem IsM.look_ok {t e : TypeId} (h : IsM P K w b n f) (hK : P.underlying K = some (.int .u32)) (ht : P.underlying t = some (.map K e)) {z : Value} (hz : (zeroValue e).run P w = .ok z w) {k : Nat} (hk : k < 4294967296) :
    (Instr.lookup t (.map (some b)) (.int .u32 (k : Int)) true).run P w = .ok (.tuple #[(f k).getD z, .bool (f k).isSome]) w := by
  obtain ⟨D, h, h3⟩ := h
  obtain ⟨v, ps, hr, hv⟩ := h.look_ok (Go.Maps.int_keyed hK) ht hz (show anyElem z = some (.held z, []) from rfl) (Go.Maps.keyOf_int_mk hK (key32_wf hk))
  have h4 := (h3 k hk).2 z
  have h5 := (h3 k hk).1
  unfold key32 at h4 h5
  rw [h4] at hv
  simp only [anyElem, Option.some.injEq, Prod.mk.injEq, DataW.held.injEq] at hv
  rw [hr, hv.1, h5]
theorem IsM.update {t e : TypeId} (h : IsM P K w b n f) (hK : P.underlying K = some (.int .u32)) (ht : P.underlying t = some (.map K e)) (hn : n < maxLen) {k : Nat} (hk : k < 4294967296) (val : Value) :
    ∃ w', (Instr.mapUpdate t (.map (some b)) (.int .u32 (k : Int)) val).run P w = .ok () w' ∧ IsM P K w' b (n + 1) (fun j => if j = k then some val else f j) ∧ w.grownBy w' (some b) := by
  obtain ⟨D, h, h3⟩ := h
  obtain ⟨w', hr, h1, h2⟩ := h.update (Go.Maps.int_keyed hK) ht hn (Go.Maps.keyOf_int_mk hK (key32_wf hk)) (show anyElem val = some (.held val, []) from rfl)
  refine ⟨w', hr, ⟨_, h1, fun j hj => ?_⟩, h2⟩
  have hM := h.isMap
  by_cases hjk : j = k
  · subst hjk
    have e : (fun i => if i = j then some val else f i) j = some val := if_pos rfl
    rw [e]
    exact ⟨Go.Maps.has_put_same hM (by simp [WideAt.IsKeyLit]) _, fun z => Go.Maps.atKey_put_same hM (by simp [WideAt.IsKeyLit]) _ _⟩
  · have hne : key32 j ≠ .int .u32 (k : Int) := by
      unfold key32
      intro e
      injection e with _ e
      omega
    have e : (fun i => if i = k then some val else f i) j = f j := if_neg hjk
    rw [e]
    exact ⟨(Go.Maps.has_put_other hne _).trans (h3 j hj).1, fun z => (Go.Maps.atKey_put_other hne _ _).trans ((h3 j hj).2 z)⟩
end
theorem wpList_mapUpdate_any {P : Program} (w : World) {ops : Array Oper} {rest : List Oper} {o : Oper} {a : Act} {Q : Exit → Act → World → Prop}
    (hg : o.guard = none) (m x v : Operand) (t : TypeId) (hop : o.op = Op.mapUpdate t m x v)
    (K e : TypeId) (hK : P.underlying K = some (.int .u32)) (ht : P.underlying t = some (.map K e)) (b n : Nat) (f : Nat → Option Value)
    (hm : a.eval m = .map (some b)) (hown : IsM P K w b n f) (hn : n < maxLen) (k : Nat) (val : Value) (hx : a.eval x = .int .u32 (k : Int)) (hv : a.eval v = val) (hk : k < 4294967296)
    (hQ : ∀ w', IsM P K w' b (n + 1) (fun j => if j = k then some val else f j) → w.grownBy w' (some b) → wpList P ops Q rest (a.put o.dst undef) w') :
    wpList P ops Q (o :: rest) a w := by
  refine wpList_plain hg fun K' hK' => ?_
  obtain ⟨w', hrun, r1, r2⟩ := hown.update hK ht hn hk val
  unfold Oper.wp
  simp [execOp, hop, hm, hx, hv, hrun, Result.andThen]
  exact hK' _ _ (hQ w' r1 r2)
theorem step_mapUpdate_any {P : Program} (w : World) {ops : Array Oper} {o : Oper} {a : Act} {C : Act → World → Prop} {Q : Exit → Act → World → Prop} {R : Prop}
    (hgd : Region.wanted o (yielded ops a.tmps) = true) (m x v : Operand) (t : TypeId) (hop : o.op = Op.mapUpdate t m x v)
    (K e : TypeId) (hK : P.underlying K = some (.int .u32)) (ht : P.underlying t = some (.map K e)) (b n : Nat) (f : Nat → Option Value)
    (hm : a.eval m = .map (some b)) (hown : IsM P K w b n f) (hn : n < maxLen) (k : Nat) (val : Value) (hx : a.eval x = .int .u32 (k : Int)) (hv : a.eval v = val) (hk : k < 4294967296)
    (hQ : ∀ w', IsM P K w' b (n + 1) (fun j => if j = k then some val else f j) → w.grownBy w' (some b) → C (a.put o.dst undef) w') :
    if Region.wanted o (yielded ops a.tmps) = true then Oper.wp P o a w C Q else R := by
  rw [if_pos hgd]
  obtain ⟨w', hrun, r1, r2⟩ := hown.update hK ht hn hk val
  unfold Oper.wp
  simp [execOp, hop, hm, hx, hv, hrun, Result.andThen]
  exact hQ w' r1 r2
end Ba
namespace CanT
open CanM (St)
open Go.RowKit Ba
variable {P : Program} {ops : Array Oper} {Q : Exit → Act → World → Prop} {F : World → Prop} {k : Nat} {i : Nat} {o : Oper} {a : Act} {w : World} {rest : Ord}
/-- one cell is read, whatever F says of the world -/
theorem cellF (hi : ops[i]? = some o) (hg : Region.wanted o (yielded ops a.tmps) = true) (u v : Value) (p : Addr) (hF : ∀ w', F w' → w'.cell? p = some u)
    (hl : ∀ w', w'.cell? p = some u → (execOp a.eval o).run P w' = .ok (.value v) w')
    (h : ∀ K : Act → Prop, (∀ a, wpCan P ops Q k rest F a w → K a) → K (a.put o.dst v)) : wpCan P ops Q k (.op i 1 rest) F a w :=
  held hi hg ⟨v, fun w' hf => hl w' (hF w' hf), h⟩
end CanT
end Go.Proofs.YtiofkhjpknfkgaaDoor
/- The map of an index: for each weak sum the blocks that have it, in the order of their places. -/
namespace Go.Proofs.YtiofkhjpknfkgaaDoor
namespace Bk
open Go.RowKit Ba Sm Ro
set_option linter.unusedVariables false
abbrev St := List UInt8 × Nat
def stv (s : St) : List Value := bvs s.1 ++ [.int .i64 (s.2 : Int)]
theorem stv_len {s : St} (h : s.1.length = 32) : (stv s).length = 33 := by unfold stv; rw [List.length_append, bvs_length, h]; rfl
theorem stv_one (s : St) : ∀ u ∈ stv s, u.oneCell' = true := by
  intro u hu
  rcases List.mem_append.1 hu with hu | hu
  · exact bvs_one _ u hu
  · simp at hu; subst hu; rfl
theorem infoSt : (Tryd.prog.info? 82).map (fun i => (i.zero.map (·.cells.size), i.size, i.bytes)) = some (some 33, 33, 40) := by kernel_rfl
theorem run_strong (h : List UInt8) (a : Nat) (hl : h.length = 32) (w : World) : (Instr.build 82 #[(0, .agg (bvs h).toArray), (1, .int .i64 (a : Int))]).run Tryd.prog w = .ok (.agg (stv (h, a)).toArray) w := by
  refine run_buildL w _ _ (List.replicate 32 (.int .u8 0) ++ [.int .i64 0]) [(0, 32), (32, 1)] (by kernel_rfl) _ ?_
  have h1 : (bvs h).length = 32 := by rw [bvs_length, hl]
  simp only [fillL, List.getElem?_cons_zero, List.getElem?_cons_succ, Value.cells]
  simp [h1, stv]
theorem zeroE (w : World) : (zeroValue 80).run Tryd.prog w = .ok (.slice none 0 0) w := by kernel_rfl
/-- .. in memory -/
def IsG (w : World) (base bm n : Nat) (G : Nat → List St) : Prop :=
  ∃ f, IsM Tryd.prog 56 w bm n f ∧ bm < base ∧ base ≤ w.heap.size ∧
    (∀ k, k < 4294967296 → (f k = none ∧ G k = []) ∨ ∃ v, f k = some v ∧ G k ≠ [] ∧ OwnRow stv 33 w base 82 v (G k)) ∧
    ∀ a b va vb, a ≠ b → a < 4294967296 → b < 4294967296 → f a = some va → f b = some vb → va.ownBlock = none ∨ va.ownBlock ≠ vb.ownBlock
theorem IsG.below {w w' : World} {base bm n : Nat} {G : Nat → List St} (h : IsG w base bm n G) (hb : Below w.heap.size w w') : IsG w' base bm n G := by
  obtain ⟨f, h1, h2, h3, h4, h5⟩ := h
  refine ⟨f, h1.below hb h1.lt, h2, Nat.le_trans h3 hb.size, fun k hk => ?_, h5⟩
  rcases h4 k hk with h | ⟨v, a, b, c⟩
  · exact .inl h
  · exact .inr ⟨v, a, b, c.keptB hb⟩
theorem IsG.made (w w' : World) (base : Nat) (h : Below (w.heap.size + 1) (w.alloc (.map #[] 0)) w') (hb : w.heap.size < base) (hs : base ≤ w'.heap.size) : IsG w' base w.heap.size 0 (fun _ => []) :=
  ⟨fun _ => none, (IsM.made w).below h (by omega), hb, hs, fun k _ => .inl ⟨rfl, rfl⟩, fun a b va vb _ _ _ h => by cases h⟩
/-- a look-up, and the way back -/
theorem IsG.at_ {w : World} {base bm n : Nat} {G : Nat → List St} (h : IsG w base bm n G) {k : Nat} (hk : k < 4294967296) :
    ∃ f v, v = (f k).getD (.slice none 0 0) ∧ (f k).isSome = !(G k).isEmpty ∧ IsM Tryd.prog 56 w bm n f ∧ OwnRow stv 33 w base 82 v (G k) ∧ bm < base ∧ base ≤ w.heap.size ∧
      ∀ w1 w2 v' x, w.grownBy w1 v.ownBlock → OwnRow stv 33 w1 base 82 v' (G k ++ [x]) → (v'.ownBlock = v.ownBlock ∨ ∃ q, v'.ownBlock = some q ∧ w.heap.size ≤ q) →
        IsM Tryd.prog 56 w2 bm (n + 1) (fun j => if j = k then some v' else f j) → w1.grownBy w2 (some bm) → IsG w2 base bm (n + 1) (fun j => if j = k then G k ++ [x] else G j) := by
  obtain ⟨f, h1, h2, h3, h4, h5⟩ := h
  have hv : OwnRow stv 33 w base 82 ((f k).getD (.slice none 0 0)) (G k) := by
    rcases h4 k hk with ⟨a, b⟩ | ⟨v, a, b, c⟩
    · rw [a, b]; exact OwnRow.nil
    · rw [a]; exact c
  refine ⟨f, _, rfl, ?_, h1, hv, h2, h3, ?_⟩
  · rcases h4 k hk with ⟨a, b⟩ | ⟨v, a, b, c⟩
    · rw [a, b]; rfl
    · rw [a]; cases hG : G k with
      | nil => exact absurd hG b
      | cons x l => rfl
  · intro w1 w2 v' x hg ho hloc hM hg2
    have own_ne : ∀ {u : Value} {l : List St} {W : World}, OwnRow stv 33 W base 82 u l → u.ownBlock = none ∨ u.ownBlock ≠ some bm := fun {u l W} ho => by
      cases hu : u.ownBlock with
      | none => exact .inl rfl
      | some g =>
        refine .inr fun e => ?_
        have := (ho.ge g hu).1
        injection e with e
        omega
    -- another key's row lies apart from the old value
    have apart : ∀ j va, j ≠ k → j < 4294967296 → f j = some va → va.ownBlock = none ∨ va.ownBlock ≠ ((f k).getD (.slice none 0 0)).ownBlock := fun j va hj hj2 hf => by
      cases hfk : f k with
      | none =>
        simp only [Option.getD_none]
        cases va.ownBlock with
        | none => exact .inl rfl
        | some g => exact .inr (by simp [Value.ownBlock])
      | some vk => exact h5 j k va vk hj hj2 hk hf hfk
    have apart2 : ∀ j va, j ≠ k → j < 4294967296 → f j = some va → va.ownBlock = none ∨ va.ownBlock ≠ v'.ownBlock := fun j va hj hj2 hf => by
      rcases hloc with e | ⟨q, e, hq⟩
      · rw [e]; exact apart j va hj hj2 hf
      · cases hva : va.ownBlock with
        | none => exact .inl rfl
        | some g =>
          refine .inr fun e2 => ?_
          rw [e] at e2
          injection e2 with e2
          rcases h4 j hj2 with ⟨a, b⟩ | ⟨v, a, b, c⟩
          · rw [hf] at a; cases a
          · rw [hf] at a
            injection a with a
            subst a
            have := (c.ge g hva).2
            omega
    refine ⟨_, hM, h2, Nat.le_trans h3 (Nat.le_trans hg.size hg2.size), fun j hj => ?_, fun a b va vb hab ha hb hfa hfb => ?_⟩
    · by_cases hjk : j = k
      · subst hjk
        exact .inr ⟨v', by simp, by simp, by simp only [if_true]; exact ho.grown hg2 (own_ne ho)⟩
      · simp only [if_neg hjk]
        rcases h4 j hj with ⟨a, b⟩ | ⟨v, a, b, c⟩
        · exact .inl ⟨a, b⟩
        · have c1 := c.grown hg (apart j v hjk hj a)
          exact .inr ⟨v, a, b, c1.grown hg2 (own_ne c1)⟩
    · by_cases hak : a = k
      · subst hak
        simp only [if_true, Option.some.injEq] at hfa
        subst hfa
        rw [if_neg (Ne.symm hab)] at hfb
        rcases apart2 b vb (Ne.symm hab) hb hfb with h | h
        · rw [h]
          cases v'.ownBlock with
          | none => exact .inl rfl
          | some g => exact .inr (by simp)
        · exact .inr (Ne.symm h)
      · rw [if_neg hak] at hfa
        by_cases hbk : b = k
        · subst hbk
          simp only [if_true, Option.some.injEq] at hfb
          subst hfb
          exact apart2 a va hak ha hfa
        · rw [if_neg hbk] at hfb
          exact h5 a b va vb hab ha hb hfa hfb
/-- an index in block g: blocks of a size, by their sums -/
def IsX (w : World) (g z : Nat) (l : List Sg) : Prop :=
  ∃ bm base m, Blk w g 79 #[.int .i64 (z : Int), .int .i64 (l.length : Int), .map (some bm)] ∧ IsG w base bm m (grpK z l l.length)
theorem IsX.lt {w : World} {g z : Nat} {l : List Sg} (h : IsX w g z l) : g < w.heap.size := by obtain ⟨_, _, _, h, _⟩ := h; exact h.lt
theorem IsX.below {w w' : World} {g z : Nat} {l : List Sg} (h : IsX w g z l) (hb : Below w.heap.size w w') : IsX w' g z l := by
  obtain ⟨bm, base, m, h1, h2⟩ := h
  exact ⟨bm, base, m, h1.below hb h1.lt, h2.below hb⟩
end Bk
end Go.Proofs.YtiofkhjpknfkgaaDoor
/- The size of a file's blocks: the program's, the document's. -/
namespace Go.Proofs.YtiofkhjpknfkgaaDoor
namespace Bk
open Go.RowKit Ba
set_option linter.unusedVariables false
def szN (k : Nat) : Nat := 16 * 2 ^ k
theorem bsize_of (n : Int) (k : Nat) (hk : k ≤ 8) (h1 : ∀ j, j < k → ((szN j * szN j : Nat) : Int) < n) (h2 : k = 8 ∨ n ≤ ((szN k * szN k : Nat) : Int)) : bsize n = szN k := by
  have h : k = 0 ∨ k = 1 ∨ k = 2 ∨ k = 3 ∨ k = 4 ∨ k = 5 ∨ k = 6 ∨ k = 7 ∨ k = 8 := by omega
  have h3 : k = 0 ∨ ((szN (k - 1) * szN (k - 1) : Nat) : Int) < n := by
    rcases Nat.eq_zero_or_pos k with h | h
    · exact .inl h
    · exact .inr (h1 _ (by omega))
  clear h1
  unfold bsize
  rcases h with rfl | rfl | rfl | rfl | rfl | rfl | rfl | rfl | rfl <;> simp [szN] at h2 h3 ⊢ <;> (repeat' split) <;> omega
theorem szN_succ (k : Nat) : szN (k + 1) = szN k * 2 := by unfold szN; rw [Nat.pow_succ, Nat.mul_assoc]
theorem szN_ge (k : Nat) : 16 ≤ szN k := by unfold szN; have := Nat.pow_pos (n := k) (show 0 < 2 by omega); omega
theorem szN_lt (k : Nat) (h : k ≤ 8) : szN k ≤ 4096 ∧ (szN k < 4096 ↔ k < 8) := by
  have h : k = 0 ∨ k = 1 ∨ k = 2 ∨ k = 3 ∨ k = 4 ∨ k = 5 ∨ k = 6 ∨ k = 7 ∨ k = 8 := by omega
  rcases h with rfl | rfl | rfl | rfl | rfl | rfl | rfl | rfl | rfl <;> simp [szN]
set_option maxRecDepth 100000 in
set_option maxHeartbeats 400000 in
theorem may_calls (n : Int) (ok : Bool) (hok : ok = true ↔ 1 ≤ n ∧ n ≤ 4096) (w : World) : Calls Tryd.prog 53 #[.int .i64 n] w fun e w' => e = .returned (.bool ok) ∧ w = w' := by
  by_cases h1 : 1 ≤ n
  · by_cases h2 : n ≤ 4096
    · obtain rfl : ok = true := hok.2 ⟨h1, h2⟩
      clear hok
      go_enter Tryd.func53, Tryd.ntmps53
      go_wp2
      go_ret
      exact ⟨rfl, rfl⟩
    · obtain rfl : ok = false := by cases ok; rfl; exact absurd (hok.1 rfl).2 h2
      clear hok
      go_enter Tryd.func53, Tryd.ntmps53
      go_wp2
      go_ret
      exact ⟨rfl, rfl⟩
  · obtain rfl : ok = false := by cases ok; rfl; exact absurd (hok.1 rfl).1 h1
    clear hok
    go_enter Tryd.func53, Tryd.ntmps53
    go_wp2
    go_ret
    exact ⟨rfl, rfl⟩
end Bk
end Go.Proofs.YtiofkhjpknfkgaaDoor
/- Whether sums may be: the program's look, the document's; an index that is not there; its size and length. -/
namespace Go.Proofs.YtiofkhjpknfkgaaDoor
namespace Bk
open Go.RowKit Ba
set_option linter.unusedVariables false
theorem check_spell (size n : Int) (m : Nat) (h1 : 1 ≤ size ∧ size ≤ 4096) (h2 : 0 ≤ n ∧ n ≤ 65536) : check size n m = if (m : Int) = n.tdiv size ∧ m ≤ 4096 then 0 else 13 := by
  unfold check
  rw [if_neg (by omega), if_neg (by omega), Int.tdiv_eq_ediv_of_nonneg h2.1]
  by_cases h : (m : Int) = n / size ∧ m ≤ 4096
  · rw [if_pos h, if_neg (by omega)]
  · rw [if_neg h, if_pos (by omega)]
set_option maxRecDepth 100000 in
set_option maxHeartbeats 1000000 in
theorem check_calls (size n : Int) (A : Option Addr) (m c : Nat) (hs : -9223372036854775808 ≤ size ∧ size ≤ 9223372036854775807) (hn : -9223372036854775808 ≤ n ∧ n ≤ 9223372036854775807) (hm : m ≤ 9223372036854775807) (w : World) :
    Calls Tryd.prog 41 #[.int .i64 size, .int .i64 n, .slice A m c] w fun e w' => e = .returned (.int .i64 (check size n m)) ∧ w = w' := by
  by_cases h1 : 1 ≤ size ∧ size ≤ 4096
  · have hmay := may_calls size true (by simp; omega)
    have Hm := Lib.hid hmay
    clear hmay
    by_cases h2 : 0 ≤ n ∧ n ≤ 65536
    · rw [check_spell size n m h1 h2]
      obtain ⟨q, hq⟩ : ∃ q : Nat, n.tdiv size = (q : Int) := ⟨(n.tdiv size).toNat, by rw [Int.tdiv_eq_ediv_of_nonneg h2.1]; have := Int.ediv_nonneg h2.1 (show 0 ≤ size by omega); omega⟩
      have hq2 : q ≤ 65536 := by
        have : n.tdiv size ≤ n := by rw [Int.tdiv_eq_ediv_of_nonneg h2.1]; exact Int.ediv_le_self _ h2.1
        omega
      rw [hq]
      have hz : ¬ size = 0 := by omega
      have g1 : decide (n < 0) = false := by rw [decide_eq_false_iff_not]; omega
      have g2 : decide (65536 < n) = false := by rw [decide_eq_false_iff_not]; omega
      by_cases h3 : m = q
      · subst h3
        by_cases h4 : m ≤ 4096
        · rw [if_pos ⟨rfl, h4⟩]
          go_enter Tryd.func41, Tryd.ntmps41
          go_wp2_with (go_at_call 53; refine (Hm.out _).mono ?_; rintro e w1 ⟨rfl, rfl⟩)
          go_ret
          exact ⟨rfl, rfl⟩
        · rw [if_neg (by omega)]
          go_enter Tryd.func41, Tryd.ntmps41
          go_wp2_with (go_at_call 53; refine (Hm.out _).mono ?_; rintro e w1 ⟨rfl, rfl⟩)
          go_ret
          exact ⟨rfl, rfl⟩
      · rw [if_neg (by omega)]
        have h3' : ¬ (m : Int) = (q : Int) := by omega
        go_enter Tryd.func41, Tryd.ntmps41
        go_wp2_with (go_at_call 53; refine (Hm.out _).mono ?_; rintro e w1 ⟨rfl, rfl⟩)
        go_ret
        exact ⟨rfl, rfl⟩
    · have hc : check size n m = 5 := by unfold check; rw [if_neg (by omega), if_pos (by omega)]
      rw [hc]
      clear hc
      by_cases h3 : 0 ≤ n
      all_goals
        go_enter Tryd.func41, Tryd.ntmps41
        go_wp2_with (go_at_call 53; refine (Hm.out _).mono ?_; rintro e w1 ⟨rfl, rfl⟩)
        go_ret
        exact ⟨rfl, rfl⟩
  · have hc : check size n m = 2 := by unfold check; rw [if_pos (by omega)]
    rw [hc]
    clear hc
    have hmay := may_calls size false (by simp; omega)
    have Hm := Lib.hid hmay
    clear hmay
    go_enter Tryd.func41, Tryd.ntmps41
    go_wp2_with (go_at_call 53; refine (Hm.out _).mono ?_; rintro e w1 ⟨rfl, rfl⟩)
    go_ret
    exact ⟨rfl, rfl⟩
end Bk
end Go.Proofs.YtiofkhjpknfkgaaDoor
/- When two sums are the same, to the program. -/
namespace Go.Proofs.YtiofkhjpknfkgaaDoor
namespace Bk
open Go.RowKit Ba Sm Ro
set_option linter.unusedVariables false
theorem eqF_cons {P : Program} (w : World) (d : Nat) (xs ys : Array Value) (f : Field) (fs : List Field) (hn : f.name ≠ "_") (a b : Value) (r : Bool) (pa : (part f.type xs f.offset).run P w = .ok a w) (pb : (part f.type ys f.offset).run P w = .ok b w)
    (hr : (Op.equalIn d f.type a b).run P w = .ok r w) : (Op.eqFields d xs ys (f :: fs)).run P w = if r then (Op.eqFields d xs ys fs).run P w else .ok false w := by
  rw [Op.eqFields, if_pos hn]
  simp only [Sem.run_bind, pa, pb, hr, Result.andThen_ok]
  cases r <;> rfl
theorem sig_fields : (Tryd.prog.fieldsOf 60).toList.map (fun f => (f.name, f.type, f.offset)) = [("Weak", 56, 0), ("Strong", 42, 1)] := by kernel_rfl
theorem run_eqSig0 (a b : Sg) (ha : a.2.length = 32) (hb : b.2.length = 32) (w : World) : (Op.equalIn 10000 60 (.agg (sgv a).toArray) (.agg (sgv b).toArray)).run Tryd.prog w = .ok (a == b) w := by
  rw [run_equalIn_struct w 9999 60 _ _ (by kernel_rfl) (by kernel_rfl)]
  have hf := sig_fields
  generalize (Tryd.prog.fieldsOf 60).toList = fs at hf
  obtain ⟨f, g, rfl⟩ : ∃ f g, fs = [f, g] := by
    have hl := congrArg List.length hf
    simp at hl
    rcases fs with _ | ⟨f, _ | ⟨g, _ | ⟨h, t⟩⟩⟩ <;> simp at hl
    exact ⟨f, g, rfl⟩
  · simp only [List.map_cons, List.map_nil, List.cons.injEq, Prod.mk.injEq, and_true] at hf
    obtain ⟨⟨f1, f2, f3⟩, g1, g2, g3⟩ := hf
    have hl : ∀ x : Sg, x.2.length = 32 → (sgv x).toArray.extract 1 33 = (bvs x.2).toArray := fun x hx => by
      have := sgv_len hx
      apply Array.ext'
      simp [sgv, List.take_of_length_le, bvs_length, hx]
    have hpart : ∀ x : Sg, x.2.length = 32 → (part 42 (sgv x).toArray 1).run Tryd.prog w = .ok (.agg (bvs x.2).toArray) w := fun x hx => by
      have hs : (sizeOf 42).run Tryd.prog w = .ok 32 w := by kernel_rfl
      have hag : (isAgg 42).run Tryd.prog w = .ok true w := by kernel_rfl
      unfold part
      simp only [Sem.run_bind, hag, Result.andThen_ok, if_true, hs, Sem.run_pure]
      rw [hl x hx]
    have hpart0 : ∀ x : Sg, (part 56 (sgv x).toArray 0).run Tryd.prog w = .ok (.int .u32 (x.1 : Int)) w := fun x => by
      have hag : (isAgg 56).run Tryd.prog w = .ok false w := by kernel_rfl
      simp [part, hag, sgv]
    rw [eqF_cons w 9999 _ _ f [g] (by rw [f1]; decide) (.int .u32 (a.1 : Int)) (.int .u32 (b.1 : Int)) ((a.1 : Int) == (b.1 : Int)) (by rw [f2, f3]; exact hpart0 a) (by rw [f2, f3]; exact hpart0 b) (by rw [f2]; exact run_equalIn_int w 9998 _ .u32 .u32 _ _ Tryd.underlying56)]
    rw [eqF_cons w 9999 _ _ g [] (by rw [g1]; decide) (.agg (bvs a.2).toArray) (.agg (bvs b.2).toArray) (a.2 == b.2) (by rw [g2, g3]; exact hpart a ha) (by rw [g2, g3]; exact hpart b hb)
      (by rw [g2]; exact run_equalIn_bytes w 9997 42 5 32 Tryd.underlying42 Tryd.underlying5 (fun w => by kernel_rfl) a.2 b.2 ha hb)]
    have e : (a == b) = (((a.1 : Int) == (b.1 : Int)) && (a.2 == b.2)) := by
      rw [Bool.eq_iff_iff]
      simp only [beq_iff_eq, Bool.and_eq_true, Prod.ext_iff, Int.natCast_inj]
    rw [e]
    cases ((a.1 : Int) == (b.1 : Int)) <;> cases (a.2 == b.2) <;> simp [Op.eqFields]
theorem run_eqSig (a b : Sg) (ha : a.2.length = 32) (hb : b.2.length = 32) (w : World) : (binOp .eql 60 (.agg (sgv a).toArray) (.agg (sgv b).toArray)).run Tryd.prog w = .ok (.bool (a == b)) w := by
  rw [run_eql_struct, run_eqSig0 a b ha hb w]; rfl
theorem run_neSig (a b : Sg) (ha : a.2.length = 32) (hb : b.2.length = 32) (w : World) : (binOp .neq 60 (.agg (sgv a).toArray) (.agg (sgv b).toArray)).run Tryd.prog w = .ok (.bool (!(a == b))) w := by
  rw [run_neq_struct, run_eqSig0 a b ha hb w]; rfl
theorem run_eqB (a b : List UInt8) (ha : a.length = 32) (hb : b.length = 32) (w : World) : (binOp .eql 42 (.agg (bvs a).toArray) (.agg (bvs b).toArray)).run Tryd.prog w = .ok (.bool (a == b)) w :=
  run_eql_bytes w 42 5 32 Tryd.underlying42 Tryd.underlying5 (fun w => by kernel_rfl) a b ha hb
end Bk
end Go.Proofs.YtiofkhjpknfkgaaDoor
/- A region that draws its order, where all that it reads lies in blocks that were there at its start: F is 'Below' of the world at its start. -/
namespace Go.Proofs.YtiofkhjpknfkgaaDoor
namespace CanB
open CanT Go.RowKit Ba Sm
set_option linter.unusedVariables false
section
variable {P : Program} {ops : Array Oper} {Q : Exit → Act → World → Prop} {k : Nat}
theorem region {id : Nat} {l : List Oper} {a : Act} {w : World} (k : Nat) (ord : Ord) (hm : P.follows .mixedOrders = true)
    (hB : (Region.noSelect l.toArray && okLen ord l.length && canB l.toArray k ord false (Array.replicate l.length false)) = true)
    (h : wpCan P l.toArray (NoPanic Q) k ord (Below w.drew.heap.size w.drew) a w.drew) : (Code.region id l.toArray true).wp P Q a w :=
  CanT.region (Below w.drew.heap.size w.drew) k ord hm hB (Below.refl _ _) h
variable {i : Nat} {o : Oper} {a : Act} {w W : World} {b : Nat} {rest : Ord} {B : Nat}
/-- a row of values is read -/
theorem row (hi : ops[i]? = some o) (hg : Region.wanted o (yielded ops a.tmps) = true)
    (ty : TypeId) (x : Operand) (ho : o.op = .load ty x) (g p : Nat) (cs : List Value) (hx : a.eval x = .pointer (some ⟨g, p, none⟩)) (hR : W.rangeAt g p cs) (hgB : g < B) (d : TypeDesc) (hu : P.underlying ty = some d) (hd : d.isRow = true)
    (hs : (P.info? ty).map (·.size) = some cs.length) (h : ∀ K : Act → Prop, (∀ a, wpCan P ops Q k rest (Below B W) a w → K a) → K (a.put o.dst (.agg cs.toArray))) : wpCan P ops Q k (.op i 1 rest) (Below B W) a w :=
  CanT.heldR hi hg ty x ho g p cs hx (fun w' hF j v hv => (Below.cell (p := ⟨g, p + j, none⟩) hF hgB).trans (hR j v hv)) d hu hd hs h
/-- bytes are read as a text -/
theorem str (hi : ops[i]? = some o) (hg : Region.wanted o (yielded ops a.tmps) = true)
    (src dst e : TypeId) (x : Operand) (ho : o.op = .convert src dst x) (hs : P.underlying src = some (.slice e)) (he : P.underlying e = some (.int .u8)) (hd : P.underlying dst = some .string) (A : Option Addr) (n c : Nat) (l : List UInt8)
    (hx : a.eval x = .slice A n c) (hn : n = l.length) (hR : ReadB W B A l) (h : ∀ K : Act → Prop, (∀ a, wpCan P ops Q k rest (Below B W) a w → K a) → K (a.put o.dst (.string (S l)))) : wpCan P ops Q k (.op i 1 rest) (Below B W) a w := by
  subst hn
  refine CanT.held hi hg ⟨.string (S l), fun w' hF' => ?_, h⟩
  unfold execOp
  simp only [ho, hx, Sem.run_bind, run_strof w' src e hs he A c B l (hR.below hF') dst hd]
  rfl
/-- one cell is read -/
theorem cell (hi : ops[i]? = some o) (hg : Region.wanted o (yielded ops a.tmps) = true) (u v : Value) (p : Addr) (hc : W.cell? p = some u) (hp : p.block < B)
    (hl : ∀ w', w'.cell? p = some u → (execOp a.eval o).run P w' = .ok (.value v) w')
    (h : ∀ K : Act → Prop, (∀ a, wpCan P ops Q k rest (Below B W) a w → K a) → K (a.put o.dst v)) : wpCan P ops Q k (.op i 1 rest) (Below B W) a w :=
  CanT.held hi hg ⟨v, fun w' hF => hl w' ((Below.cell hF hp).trans hc), h⟩
end
end CanB
end Go.Proofs.YtiofkhjpknfkgaaDoor
/- Whether lists of sums are the same, to the document's answer. -/
namespace Go.Proofs.YtiofkhjpknfkgaaDoor
namespace Bk
open Go.RowKit Ba Sm Ro
set_option linter.unusedVariables false
theorem rw_len {l : List Sg} (h : RWf sgv 33 l) {k : Nat} (hk : k < l.length) : (sg l k).2.length = 32 := by
  have e : sg l k = l[k] := by simp [sg, List.getD, hk]
  have := (h l[k] (List.getElem_mem hk)).1
  rw [e]
  simpa [sgv, bvs_length] using this
theorem sg_get {l : List Sg} {k : Nat} (hk : k < l.length) : l[k]? = some (sg l k) := by
  rw [List.getElem?_eq_getElem hk]
  simp [sg, List.getD, hk]
theorem take_beq {a b : List Sg} (h : a.length = b.length) (k : Nat) (hk : k < a.length) (he : a.take k = b.take k) : (sg a k = sg b k → a.take (k + 1) = b.take (k + 1)) ∧ (sg a k ≠ sg b k → a ≠ b) := by
  refine ⟨fun e => ?_, fun e e2 => e (by rw [e2])⟩
  rw [List.take_add_one, List.take_add_one, he, sg_get hk, sg_get (show k < b.length by omega), e]
end Bk
end Go.Proofs.YtiofkhjpknfkgaaDoor

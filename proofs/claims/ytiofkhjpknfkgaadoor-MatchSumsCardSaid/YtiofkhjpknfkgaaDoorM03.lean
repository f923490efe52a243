/- A region that draws its order, holds calls and loads, and ends in a store to what it has read: one walk serves every order. F holds till the operation k comes up, which waits for all that lean on F; behind a call F may be made stronger. -/
import Derived.Test.YtiofkhjpknfkgaaDoorM01
import Derived.Test.YtiofkhjpknfkgaaDoorM02
import Derived.Deep.RegionHeld3
import Derived.Below
import Derived.Laws.Tables
namespace Go.Proofs.YtiofkhjpknfkgaaDoor
namespace CanM
set_option linter.unusedVariables false
section
variable {P : Program} {ops : Array Oper} {Q : Exit → Act → World → Prop} {F : World → Prop} {k : Nat}

def St (F : World → Prop) (k : Nat) (listed : Array Bool) (w : World) : Prop := listed.getD k false = false → F w
theorem St.mono {listed : Array Bool} {w : World} (h : St F k listed w) (i : Nat) : St F k (listed.setIfInBounds i true) w := fun h1 => h (by
  cases hb : listed.getD k false
  · rfl
  · rw [getD_set_true hb] at h1; cases h1)
def wpAnyL (P : Program) (ops : Array Oper) (Q : Exit → Act → World → Prop) (F : World → Prop) (k : Nat) : Nat → Array Bool → Act → World → Prop
  | 0, listed, a, w => Region.ready .any ops listed = [] ∧ Q .normal a w
  | fuel + 1, listed, a, w => (Region.ready .any ops listed = [] → Q .normal a w) ∧
    ∀ i ∈ Region.ready .any ops listed, wpOp P ops Q i (fun a' w' => St F k (listed.setIfInBounds i true) w' ∧ wpAnyL P ops Q F k fuel (listed.setIfInBounds i true) a' w') a w
theorem wpAny_of_L : ∀ (fuel : Nat) (listed : Array Bool) (a : Act) (w : World), wpAnyL P ops Q F k fuel listed a w → wpAny P .any ops Q fuel listed a w
  | 0, _, _, _, h => h
  | fuel + 1, _, _, _, h => ⟨h.1, fun i hi => wpOp_mono (fun a' w' h' => wpAny_of_L fuel _ a' w' h'.2) (h.2 i hi)⟩
/-- the operation k waits for i -/
def waits (ops : Array Oper) (k i : Nat) : Bool := match ops[k]? with | some o => o.after.any fun e => Region.binds .any e && e.on == i | none => true

theorem unlisted_of_ready {listed : Array Bool} {i : Nat} {oj : Oper} (hr : i ∈ Region.ready .any ops listed) (hall : ∀ e ∈ oj.after, Region.binds .any e = true → listed.getD e.on false = true) : ∀ e ∈ oj.after, Region.binds .any e = true → e.on ≠ i := fun e he hb heq => by
  have h1 := hall e he hb
  have h0 := (mem_ready.1 hr).1
  rw [heq] at h1
  rcases Nat.lt_or_ge i listed.size with h' | h'
  · simp [h'] at h0 h1; rw [h0] at h1; cases h1
  · simp [Array.getElem?_eq_none h'] at h1

/-- what yields under F, before k, may be taken first -/
theorem first {i : Nat} {oi : Oper} {v : Value} (hi : ops[i]? = some oi) (hsel : ∀ (j : Nat) (o : Oper) cs b, ops[j]? = some o → o.op ≠ .select cs b)
    (hQ : ∀ c a w, Q (.panic c) (a.put oi.dst v) w → Q (.panic c) a w) (hk : waits ops k i = true) :
    ∀ (fuel : Nat) (listed : Array Bool) (a : Act) (w : World),
      (∀ j oj, ops[j]? = some oj → j ≠ i → listed.getD j true = false → (∀ e ∈ oj.after, Region.binds .any e = true → e.on ≠ i) → oi.apart ops oj = true) →
      i ∈ Region.ready .any ops listed → YieldsIf P ops F oi v a → listed.getD k false = false → F w →
      wpAnyL P ops Q F k fuel (listed.setIfInBounds i true) (a.put oi.dst v) w → wpAnyL P ops Q F k (fuel + 1) listed a w := by
  intro fuel
  induction fuel with
  | zero =>
    intro listed a w _ hr hy hkl hF H
    refine ⟨fun h => (by rw [h] at hr; cases hr), fun j hj => ?_⟩
    by_cases hji : j = i
    · subst hji; exact hy.wpOp hi hF ⟨fun _ => hF, H⟩
    · have := ready_mono hj hji
      rw [H.1] at this
      cases this
  | succ fuel ih =>
    intro listed a w hfree hr hy hkl hF H
    refine ⟨fun h => (by rw [h] at hr; cases hr), fun j hj => ?_⟩
    by_cases hji : j = i
    · subst hji; exact hy.wpOp hi hF ⟨fun _ => hF, H⟩
    · have h1 := H.2 j (ready_mono hj hji)
      obtain ⟨hjun, oj, hoj, hall⟩ := mem_ready.1 hj
      have hnot := unlisted_of_ready hr hall
      have hjk : j ≠ k := fun e => by
        subst e
        unfold waits at hk
        rw [hoj] at hk
        simp only [Array.any_eq_true', Bool.and_eq_true, beq_iff_eq] at hk
        obtain ⟨e, he, hb, heq⟩ := hk
        exact hnot e he hb heq
      have hkl' : (listed.setIfInBounds j true).getD k false = false := by rw [getD_set_ne false hjk]; exact hkl
      have h2 := wpOp_putIf hoj (hfree j oj hoj hji hjun hnot) (fun cs b => hsel i oi cs b hi) (fun cs b => hsel j oj cs b hoj) hQ hy h1
      have hfree' : ∀ m om, ops[m]? = some om → m ≠ i → (listed.setIfInBounds j true).getD m true = false →
          (∀ e ∈ om.after, Region.binds .any e = true → e.on ≠ i) → oi.apart ops om = true := fun m om hm hmi hun hno => by
        refine hfree m om hm hmi ?_ hno
        by_cases hjm : j = m
        · subst hjm; exact hjun
        · rw [getD_set_ne true hjm] at hun; exact hun
      refine wpOp_mono (fun a' w' h3 => ?_) h2
      obtain ⟨hy', hS', h4⟩ := h3
      have hS2 : F w' := hS' (by rw [Array.setIfInBounds_comm _ _ (Ne.symm hji)]; rw [getD_set_ne false (fun e => by
        subst e
        unfold waits at hk
        rw [hi] at hk
        simp only [Array.any_eq_true', Bool.and_eq_true, beq_iff_eq] at hk
        obtain ⟨e, he, hb, heq⟩ := hk
        obtain ⟨hun, oi', hoi', hall'⟩ := mem_ready.1 hr
        rw [hi] at hoi'
        injection hoi' with hoi'
        subst hoi'
        exact unlisted_of_ready hr hall' e he hb heq)]; exact hkl')
      refine ⟨fun _ => hS2, ih (listed.setIfInBounds j true) a' w' hfree' (ready_mono hr (Ne.symm hji)) hy' hkl' hS2 ?_⟩
      rw [Array.setIfInBounds_comm _ _ hji]
      exact h4

/-- what yields in whatever world may be taken first -/
theorem firstAll {i : Nat} {oi : Oper} {v : Value} (hi : ops[i]? = some oi) (hsel : ∀ (j : Nat) (o : Oper) cs b, ops[j]? = some o → o.op ≠ .select cs b)
    (hQ : ∀ c a w, Q (.panic c) (a.put oi.dst v) w → Q (.panic c) a w) (hik : i ≠ k) :
    ∀ (fuel : Nat) (listed : Array Bool) (a : Act) (w : World),
      (∀ j oj, ops[j]? = some oj → j ≠ i → listed.getD j true = false → (∀ e ∈ oj.after, Region.binds .any e = true → e.on ≠ i) → oi.apart ops oj = true) →
      i ∈ Region.ready .any ops listed → Yields P ops oi v a → St F k listed w →
      wpAnyL P ops Q F k fuel (listed.setIfInBounds i true) (a.put oi.dst v) w → wpAnyL P ops Q F k (fuel + 1) listed a w := by
  intro fuel
  induction fuel with
  | zero =>
    intro listed a w _ hr hy hS H
    refine ⟨fun h => (by rw [h] at hr; cases hr), fun j hj => ?_⟩
    by_cases hji : j = i
    · subst hji; exact hy.wpOp hi ⟨hS.mono _, H⟩
    · have := ready_mono hj hji
      rw [H.1] at this
      cases this
  | succ fuel ih =>
    intro listed a w hfree hr hy hS H
    refine ⟨fun h => (by rw [h] at hr; cases hr), fun j hj => ?_⟩
    by_cases hji : j = i
    · subst hji; exact hy.wpOp hi ⟨hS.mono _, H⟩
    · have h1 := H.2 j (ready_mono hj hji)
      obtain ⟨hjun, oj, hoj, hall⟩ := mem_ready.1 hj
      have hnot := unlisted_of_ready hr hall
      have h2 := wpOp_put hoj (hfree j oj hoj hji hjun hnot) (fun cs b => hsel i oi cs b hi) (fun cs b => hsel j oj cs b hoj) hQ hy h1
      have hfree' : ∀ m om, ops[m]? = some om → m ≠ i → (listed.setIfInBounds j true).getD m true = false →
          (∀ e ∈ om.after, Region.binds .any e = true → e.on ≠ i) → oi.apart ops om = true := fun m om hm hmi hun hno => by
        refine hfree m om hm hmi ?_ hno
        by_cases hjm : j = m
        · subst hjm; exact hjun
        · rw [getD_set_ne true hjm] at hun; exact hun
      refine wpOp_mono (fun a' w' h3 => ?_) h2
      obtain ⟨hy', hS', h4⟩ := h3
      have hS2 : St F k (listed.setIfInBounds j true) w' := fun h5 => hS' (by rw [Array.setIfInBounds_comm _ _ (Ne.symm hji), getD_set_ne false hik]; exact h5)
      refine ⟨hS2, ih (listed.setIfInBounds j true) a' w' hfree' (ready_mono hr (Ne.symm hji)) hy' hS2 ?_⟩
      rw [Array.setIfInBounds_comm _ _ hji]
      exact h4

theorem L_mono {F' : World → Prop} (hF : ∀ w, F' w → F w) : ∀ (fuel : Nat) (listed : Array Bool) (a : Act) (w : World), wpAnyL P ops Q F' k fuel listed a w → wpAnyL P ops Q F k fuel listed a w
  | 0, _, _, _, h => h
  | fuel + 1, _, _, _, h => ⟨h.1, fun i hi => wpOp_mono (fun a' w' h' => ⟨fun h1 => hF _ (h'.1 h1), L_mono hF fuel _ a' w' h'.2⟩) (h.2 i hi)⟩
/-- the walk: (i, 0) a call, a store ..; (i, 1) yields under F; (i, 2) yields in whatever world -/
def wpCan (P : Program) (ops : Array Oper) (Q : Exit → Act → World → Prop) (k : Nat) : List (Nat × Nat) → (World → Prop) → Act → World → Prop
  | [], _, a, w => Q .normal a w
  | (i, 0) :: rest, F, a, w => ∃ o, ops[i]? = some o ∧ ((Region.wanted o (yielded ops a.tmps) = false ∧ wpCan P ops Q k rest F (a.put o.dst undef) w) ∨
      wpOp P ops Q i (fun a w => ∃ F' : World → Prop, (∀ w, F' w → F w) ∧ (i = k ∨ F' w) ∧ wpCan P ops Q k rest F' a w) a w)
  | (i, 1) :: rest, F, a, w => ∃ o v, ops[i]? = some o ∧ YieldsIf P ops F o v a ∧ wpCan P ops Q k rest F (a.put o.dst v) w
  | (i, _ + 2) :: rest, F, a, w => ∃ o v, ops[i]? = some o ∧ Yields P ops o v a ∧ wpCan P ops Q k rest F (a.put o.dst v) w
def canB (ops : Array Oper) (k : Nat) : List (Nat × Nat) → Array Bool → Bool
  | [], listed => (Region.ready .any ops listed).isEmpty
  | (i, 0) :: rest, listed => (Region.ready .any ops listed == [i]) && canB ops k rest (listed.setIfInBounds i true) && (!listed.getD k false || rest.all fun x => x.2 == 2) && (i < listed.size)
  | (i, 1) :: rest, listed => (Region.ready .any ops listed).contains i && Region.free .any ops listed i && waits ops k i && !listed.getD k false && canB ops k rest (listed.setIfInBounds i true)
  | (i, _ + 2) :: rest, listed => (Region.ready .any ops listed).contains i && Region.free .any ops listed i && (i != k) && canB ops k rest (listed.setIfInBounds i true)

theorem wpAny_can (hs : Region.noSelect ops = true) (hQ : ∀ c (dst : Option Tmp) v a w, Q (.panic c) (a.put dst v) w → Q (.panic c) a w) :
    ∀ (ord : List (Nat × Nat)) (F : World → Prop) (listed : Array Bool) (a : Act) (w : World), St F k listed w → canB ops k ord listed = true → wpCan P ops Q k ord F a w → wpAnyL P ops Q F k ord.length listed a w
  | [], _, _, _, _, _, hB, h => ⟨by simpa [canB] using hB, h⟩
  | (i, 0) :: rest, F, listed, a, w, hw, hB, h => by
    simp only [canB, Bool.and_eq_true, beq_iff_eq, decide_eq_true_eq] at hB
    obtain ⟨⟨⟨hr, hB'⟩, _⟩, hsz⟩ := hB
    obtain ⟨o, ho, h⟩ := h
    refine ⟨fun h0 => (by rw [hr] at h0; cases h0), fun j hj => ?_⟩
    rw [hr, List.mem_singleton] at hj
    subst hj
    rcases h with ⟨hg, h⟩ | h
    · unfold wpOp
      simp only [ho, hg, Bool.false_eq_true, if_false]
      exact ⟨hw.mono _, wpAny_can hs hQ rest F _ _ _ (hw.mono _) hB' h⟩
    · refine wpOp_mono (fun a w h1 => ?_) h
      obtain ⟨F', hFF, h1, h2⟩ := h1
      have hS : St F' k (listed.setIfInBounds j true) w := fun h5 => by
        rcases h1 with rfl | hF
        · simp [hsz] at h5
        · exact hF
      exact ⟨fun h5 => hFF _ (hS h5), L_mono hFF _ _ _ _ (wpAny_can hs hQ rest F' _ a w hS hB' h2)⟩
  | (i, 1) :: rest, F, listed, a, w, hw, hB, h => by
    simp only [canB, Bool.and_eq_true, Bool.not_eq_true'] at hB
    obtain ⟨⟨⟨⟨hr, hf⟩, hk⟩, hkl⟩, hB'⟩ := hB
    obtain ⟨o, v, ho, hy, h⟩ := h
    exact first ho (Region.noSelect_spec hs) (fun c a w => hQ c o.dst v a w) hk rest.length listed a w (Region.free_spec ho hf) (by simpa using hr) hy hkl (hw hkl) (wpAny_can hs hQ rest F _ _ _ (hw.mono _) hB' h)
  | (i, _ + 2) :: rest, F, listed, a, w, hw, hB, h => by
    simp only [canB, Bool.and_eq_true, bne_iff_ne] at hB
    obtain ⟨⟨⟨hr, hf⟩, hik⟩, hB'⟩ := hB
    obtain ⟨o, v, ho, hy, h⟩ := h
    exact firstAll ho (Region.noSelect_spec hs) (fun c a w => hQ c o.dst v a w) hik rest.length listed a w (Region.free_spec ho hf) (by simpa using hr) hy hw (wpAny_can hs hQ rest F _ _ _ (hw.mono _) hB' h)

theorem region {id : Nat} {l : List Oper} {a : Act} {w : World} (F : World → Prop) (k : Nat) (ord : List (Nat × Nat)) (hm : P.follows .mixedOrders = true)
    (hB : (Region.noSelect l.toArray && (ord.length == l.length) && canB l.toArray k ord (Array.replicate l.length false)) = true) (hF : F w.drew)
    (h : wpCan P l.toArray (NoPanic Q) k ord F a w.drew) : (Code.region id l.toArray true).wp P Q a w := by
  simp only [Bool.and_eq_true, beq_iff_eq] at hB
  refine wp_region_noPanic (wp_region_any hm ?_)
  have := wpAny_of_L _ _ _ _ (wpAny_can (P := P) (Q := NoPanic Q) (k := k) hB.1.1 (fun c dst v a w h => h.elim) ord F (Array.replicate l.length false) a w.drew (fun _ => hF) hB.2 h)
  rw [hB.1.2] at this
  simpa using this

variable {i : Nat} {o : Oper} {a : Act} {w : World} {b : Nat} {rest : List (Nat × Nat)}
theorem held (hi : ops[i]? = some o) (hg : Region.wanted o (yielded ops a.tmps) = true) (hv : ∃ v, (∀ w', F w' → (execOp a.eval o).run P w' = .ok (.value v) w') ∧ ∀ K : Act → Prop, (∀ a, wpCan P ops Q k rest F a w → K a) → K (a.put o.dst v)) : wpCan P ops Q k ((i, 1) :: rest) F a w :=
  let ⟨v, hv, h⟩ := hv; ⟨o, v, hi, .inl ⟨hg, hv⟩, h _ fun _ h => h⟩
theorem pur (hi : ops[i]? = some o) (hg : Region.wanted o (yielded ops a.tmps) = true) (hv : ∃ v, (∀ w', (execOp a.eval o).run P w' = .ok (.value v) w') ∧ ∀ K : Act → Prop, (∀ a, wpCan P ops Q k rest F a w → K a) → K (a.put o.dst v)) : wpCan P ops Q k ((i, 2) :: rest) F a w :=
  let ⟨v, hv, h⟩ := hv; ⟨o, v, hi, .inl ⟨hg, hv⟩, h _ fun _ h => h⟩
theorem skip (hi : ops[i]? = some o) (hg : Region.wanted o (yielded ops a.tmps) = false) (h : ∀ K : Act → Prop, (∀ a, wpCan P ops Q k rest F a w → K a) → K (a.put o.dst undef)) : wpCan P ops Q k ((i, b) :: rest) F a w :=
  match b with
  | 0 => ⟨o, hi, .inl ⟨hg, h _ fun _ h => h⟩⟩
  | 1 => ⟨o, undef, hi, .inr ⟨hg, rfl⟩, h _ fun _ h => h⟩
  | _ + 2 => ⟨o, undef, hi, .inr ⟨hg, rfl⟩, h _ fun _ h => h⟩
theorem impF (hi : ops[i]? = some o) (h : ∀ K : Act → World → Prop, Go.RowKit.Hid (∀ (F' : World → Prop) a w, (∀ w, F' w → F w) → F' w → wpCan P ops Q k rest F' a w → K a w) → if Region.wanted o (yielded ops a.tmps) then o.wp P a w K Q else K (a.put o.dst undef) w) : wpCan P ops Q k ((i, 0) :: rest) F a w := by
  refine ⟨o, hi, .inr ?_⟩
  have := h (fun a w => ∃ F' : World → Prop, (∀ w, F' w → F w) ∧ (i = k ∨ F' w) ∧ wpCan P ops Q k rest F' a w) (Lib.hid fun F' _ _ hFF hS h => ⟨F', hFF, .inr hS, h⟩)
  unfold wpOp
  simp only [hi]
  split
  · rename_i hw; rw [if_pos hw] at this; exact .inl this
  · rename_i hw; rw [if_neg hw] at this; exact this
theorem imp (hi : ops[i]? = some o) (h : ∀ K : Act → World → Prop, Go.RowKit.Hid (∀ a w, F w → wpCan P ops Q k rest F a w → K a w) → if Region.wanted o (yielded ops a.tmps) then o.wp P a w K Q else K (a.put o.dst undef) w) : wpCan P ops Q k ((i, 0) :: rest) F a w :=
  impF hi fun K hK => h K (Lib.hid fun a w hF h => hK.out F a w (fun _ h => h) hF h)
/-- the operation k itself -/
theorem last (hi : ops[k]? = some o) (h : ∀ K : Act → World → Prop, Go.RowKit.Hid (∀ a w, wpCan P ops Q k rest F a w → K a w) → if Region.wanted o (yielded ops a.tmps) then o.wp P a w K Q else K (a.put o.dst undef) w) : wpCan P ops Q k ((k, 0) :: rest) F a w := by
  refine ⟨o, hi, .inr (wpOp_mono (fun a w h => ⟨F, fun _ h => h, .inl rfl, h⟩) (K := wpCan P ops Q k rest F) ?_)⟩
  have := h (wpCan P ops Q k rest F) (Lib.hid fun _ _ h => h)
  unfold wpOp
  simp only [hi]
  split
  · rename_i hw; rw [if_pos hw] at this; exact .inl this
  · rename_i hw; rw [if_neg hw] at this; exact this
theorem done (h : Q .normal a w) : wpCan P ops (NoPanic Q) k [] F a w := h
end
end CanM
end Go.Proofs.YtiofkhjpknfkgaaDoor
/- A region that draws its order, holds calls and loads, and makes several things in an open order: a tree of orders. F holds till the operation k comes up; behind a call F may be made stronger. -/
namespace Go.Proofs.YtiofkhjpknfkgaaDoor
namespace CanT
open CanM (St wpAny_of_L waits first firstAll L_mono)
open Go.RowKit Ba
set_option linter.unusedVariables false
inductive Ord where
  | nil : Ord
  | op : Nat → Nat → Ord → Ord
  | fork : Ord → Ord → Ord
def ofList : List (Nat × Nat) → Ord
  | [] => .nil
  | (i, b) :: l => .op i b (ofList l)
section
variable {P : Program} {ops : Array Oper} {Q : Exit → Act → World → Prop} {F : World → Prop} {k : Nat}
def heads : Ord → List Nat
  | .nil => []
  | .op i _ _ => [i]
  | .fork l r => heads l ++ heads r
def okLen : Ord → Nat → Bool
  | .nil, 0 => true
  | .nil, _ + 1 => false
  | .op _ _ r, n + 1 => okLen r n
  | .op _ _ _, 0 => false
  | .fork l r, n => okLen l n && okLen r n
def wpCan (P : Program) (ops : Array Oper) (Q : Exit → Act → World → Prop) (k : Nat) : Ord → (World → Prop) → Act → World → Prop
  | .nil, _, a, w => Q .normal a w
  | .op i 0 rest, F, a, w => ∃ o, ops[i]? = some o ∧ ((Region.wanted o (yielded ops a.tmps) = false ∧ wpCan P ops Q k rest F (a.put o.dst undef) w) ∨
      wpOp P ops Q i (fun a w => ∃ F' : World → Prop, (∀ w, F' w → F w) ∧ (i = k ∨ F' w) ∧ wpCan P ops Q k rest F' a w) a w)
  | .op i 1 rest, F, a, w => ∃ o v, ops[i]? = some o ∧ YieldsIf P ops F o v a ∧ wpCan P ops Q k rest F (a.put o.dst v) w
  | .op i (_ + 2) rest, F, a, w => ∃ o v, ops[i]? = some o ∧ Yields P ops o v a ∧ wpCan P ops Q k rest F (a.put o.dst v) w
  | .fork l r, F, a, w => wpCan P ops Q k l F a w ∧ wpCan P ops Q k r F a w
def canB (ops : Array Oper) (k : Nat) : Ord → Bool → Array Bool → Bool
  | .nil, inF, listed => !inF && (Region.ready .any ops listed).isEmpty
  | .op i 0 rest, inF, listed => (inF || Region.ready .any ops listed == [i]) && canB ops k rest false (listed.setIfInBounds i true) && (i < listed.size)
  | .op i 1 rest, inF, listed => !inF && ((Region.ready .any ops listed).contains i && Region.free .any ops listed i && waits ops k i && !listed.getD k false && canB ops k rest false (listed.setIfInBounds i true))
  | .op i (_ + 2) rest, inF, listed => !inF && ((Region.ready .any ops listed).contains i && Region.free .any ops listed i && (i != k) && canB ops k rest false (listed.setIfInBounds i true))
  | .fork l r, inF, listed => (inF || Region.ready .any ops listed == heads l ++ heads r) && canB ops k l true listed && canB ops k r true listed
theorem heads_ne : ∀ (t : Ord) (listed : Array Bool), canB ops k t true listed = true → heads t ≠ []
  | .nil, _, h => by simp [canB] at h
  | .op i _ _, _, _ => by simp [heads]
  | .fork l r, listed, h => by
    simp only [canB, Bool.true_or, Bool.true_and, Bool.and_eq_true] at h
    have := heads_ne l listed h.1
    simp only [heads]
    intro h2
    exact this (List.append_eq_nil_iff.1 h2).1
theorem wpAny_can (hs : Region.noSelect ops = true) (hQ : ∀ c (dst : Option Tmp) v a w, Q (.panic c) (a.put dst v) w → Q (.panic c) a w) :
    ∀ (t : Ord) (F : World → Prop) (n : Nat) (listed : Array Bool) (a : Act) (w : World), St F k listed w → okLen t n = true → wpCan P ops Q k t F a w →
      (canB ops k t false listed = true → CanM.wpAnyL P ops Q F k n listed a w) ∧
      (canB ops k t true listed = true → ∃ m, n = m + 1 ∧ ∀ j ∈ heads t, wpOp P ops Q j (fun a' w' => St F k (listed.setIfInBounds j true) w' ∧ CanM.wpAnyL P ops Q F k m (listed.setIfInBounds j true) a' w') a w)
  | .nil, F, 0, listed, a, w, hw, hl, h => ⟨fun hB => ⟨by simpa [canB] using hB, h⟩, fun hB => by simp [canB] at hB⟩
  | .nil, F, n + 1, listed, a, w, hw, hl, h => by simp [okLen] at hl
  | .op i b rest, F, 0, listed, a, w, hw, hl, h => by simp [okLen] at hl
  | .op i 0 rest, F, n + 1, listed, a, w, hw, hl, h => by
    obtain ⟨o, ho, h⟩ := h
    have key : canB ops k rest false (listed.setIfInBounds i true) = true → i < listed.size → wpOp P ops Q i (fun a' w' => St F k (listed.setIfInBounds i true) w' ∧ CanM.wpAnyL P ops Q F k n (listed.setIfInBounds i true) a' w') a w := by
      intro hB' hsz
      rcases h with ⟨hg, h⟩ | h
      · unfold wpOp
        simp only [ho, hg, Bool.false_eq_true, if_false]
        exact ⟨hw.mono _, (wpAny_can hs hQ rest F n _ _ _ (hw.mono _) hl h).1 hB'⟩
      · refine wpOp_mono (fun a w h1 => ?_) h
        obtain ⟨F', hFF, h1, h2⟩ := h1
        have hS : St F' k (listed.setIfInBounds i true) w := fun h5 => by
          rcases h1 with rfl | hF
          · simp [hsz] at h5
          · exact hF
        exact ⟨fun h5 => hFF _ (hS h5), L_mono hFF _ _ _ _ ((wpAny_can hs hQ rest F' n _ a w hS hl h2).1 hB')⟩
    refine ⟨fun hB => ?_, fun hB => ⟨n, rfl, fun j hj => ?_⟩⟩
    · simp only [canB, Bool.false_or, Bool.and_eq_true, beq_iff_eq, decide_eq_true_eq] at hB
      obtain ⟨⟨hr, hB'⟩, hsz⟩ := hB
      refine ⟨fun h0 => (by rw [hr] at h0; cases h0), fun j hj => ?_⟩
      rw [hr, List.mem_singleton] at hj
      subst hj
      exact key hB' hsz
    · simp only [canB, Bool.true_or, Bool.true_and, Bool.and_eq_true, decide_eq_true_eq] at hB
      simp only [heads, List.mem_singleton] at hj
      subst hj
      exact key hB.1 hB.2
  | .op i 1 rest, F, n + 1, listed, a, w, hw, hl, h => by
    refine ⟨fun hB => ?_, fun hB => by simp [canB] at hB⟩
    simp only [canB, Bool.not_false, Bool.true_and, Bool.and_eq_true, Bool.not_eq_true'] at hB
    obtain ⟨⟨⟨⟨hr, hf⟩, hk⟩, hkl⟩, hB'⟩ := hB
    obtain ⟨o, v, ho, hy, h⟩ := h
    exact first ho (Region.noSelect_spec hs) (fun c a w => hQ c o.dst v a w) hk n listed a w (Region.free_spec ho hf) (by simpa using hr) hy hkl (hw hkl) ((wpAny_can hs hQ rest F n _ _ _ (hw.mono _) hl h).1 hB')
  | .op i (_ + 2) rest, F, n + 1, listed, a, w, hw, hl, h => by
    refine ⟨fun hB => ?_, fun hB => by simp [canB] at hB⟩
    simp only [canB, Bool.not_false, Bool.true_and, Bool.and_eq_true, bne_iff_ne] at hB
    obtain ⟨⟨⟨hr, hf⟩, hik⟩, hB'⟩ := hB
    obtain ⟨o, v, ho, hy, h⟩ := h
    exact firstAll ho (Region.noSelect_spec hs) (fun c a w => hQ c o.dst v a w) hik n listed a w (Region.free_spec ho hf) (by simpa using hr) hy hw ((wpAny_can hs hQ rest F n _ _ _ (hw.mono _) hl h).1 hB')
  | .fork l r, F, n, listed, a, w, hw, hl, h => by
    simp only [okLen, Bool.and_eq_true] at hl
    have key : canB ops k l true listed = true → canB ops k r true listed = true → ∃ m, n = m + 1 ∧ ∀ j ∈ heads l ++ heads r, wpOp P ops Q j (fun a' w' => St F k (listed.setIfInBounds j true) w' ∧ CanM.wpAnyL P ops Q F k m (listed.setIfInBounds j true) a' w') a w := by
      intro h1 h2
      obtain ⟨m, hm, g1⟩ := (wpAny_can hs hQ l F n listed a w hw hl.1 h.1).2 h1
      obtain ⟨m', hm', g2⟩ := (wpAny_can hs hQ r F n listed a w hw hl.2 h.2).2 h2
      have : m' = m := by omega
      subst this
      refine ⟨m', hm, fun j hj => ?_⟩
      rcases List.mem_append.1 hj with h | h
      · exact g1 j h
      · exact g2 j h
    refine ⟨fun hB => ?_, fun hB => ?_⟩
    · simp only [canB, Bool.false_or, Bool.and_eq_true, beq_iff_eq] at hB
      obtain ⟨m, rfl, hk⟩ := key hB.1.2 hB.2
      have hne := heads_ne l listed hB.1.2
      refine ⟨fun h0 => ?_, fun j hj => hk j (by rw [← hB.1.1]; exact hj)⟩
      rw [hB.1.1] at h0
      exact absurd (List.append_eq_nil_iff.1 h0).1 hne
    · simp only [canB, Bool.true_or, Bool.true_and, Bool.and_eq_true] at hB
      exact key hB.1 hB.2

theorem region {id : Nat} {l : List Oper} {a : Act} {w : World} (F : World → Prop) (k : Nat) (ord : Ord) (hm : P.follows .mixedOrders = true)
    (hB : (Region.noSelect l.toArray && okLen ord l.length && canB l.toArray k ord false (Array.replicate l.length false)) = true) (hF : F w.drew)
    (h : wpCan P l.toArray (NoPanic Q) k ord F a w.drew) : (Code.region id l.toArray true).wp P Q a w := by
  simp only [Bool.and_eq_true] at hB
  refine wp_region_noPanic (wp_region_any hm ?_)
  have := wpAny_of_L _ _ _ _ ((wpAny_can (P := P) (Q := NoPanic Q) (k := k) hB.1.1 (fun c dst v a w h => h.elim) ord F l.length (Array.replicate l.length false) a w.drew (fun _ => hF) hB.1.2 h).1 hB.2)
  simpa using this

variable {i : Nat} {o : Oper} {a : Act} {w : World} {b : Nat} {rest : Ord}
theorem held (hi : ops[i]? = some o) (hg : Region.wanted o (yielded ops a.tmps) = true) (hv : ∃ v, (∀ w', F w' → (execOp a.eval o).run P w' = .ok (.value v) w') ∧ ∀ K : Act → Prop, (∀ a, wpCan P ops Q k rest F a w → K a) → K (a.put o.dst v)) : wpCan P ops Q k (.op i 1 rest) F a w :=
  let ⟨v, hv, h⟩ := hv; ⟨o, v, hi, .inl ⟨hg, hv⟩, h _ fun _ h => h⟩
theorem pur (hi : ops[i]? = some o) (hg : Region.wanted o (yielded ops a.tmps) = true) (hv : ∃ v, (∀ w', (execOp a.eval o).run P w' = .ok (.value v) w') ∧ ∀ K : Act → Prop, (∀ a, wpCan P ops Q k rest F a w → K a) → K (a.put o.dst v)) : wpCan P ops Q k (.op i 2 rest) F a w :=
  let ⟨v, hv, h⟩ := hv; ⟨o, v, hi, .inl ⟨hg, hv⟩, h _ fun _ h => h⟩
theorem skip (hi : ops[i]? = some o) (hg : Region.wanted o (yielded ops a.tmps) = false) (h : ∀ K : Act → Prop, (∀ a, wpCan P ops Q k rest F a w → K a) → K (a.put o.dst undef)) : wpCan P ops Q k (.op i b rest) F a w :=
  match b with
  | 0 => ⟨o, hi, .inl ⟨hg, h _ fun _ h => h⟩⟩
  | 1 => ⟨o, undef, hi, .inr ⟨hg, rfl⟩, h _ fun _ h => h⟩
  | _ + 2 => ⟨o, undef, hi, .inr ⟨hg, rfl⟩, h _ fun _ h => h⟩
theorem impF (hi : ops[i]? = some o) (h : ∀ K : Act → World → Prop, Go.RowKit.Hid (∀ (F' : World → Prop) a w, (∀ w, F' w → F w) → F' w → wpCan P ops Q k rest F' a w → K a w) → if Region.wanted o (yielded ops a.tmps) then o.wp P a w K Q else K (a.put o.dst undef) w) : wpCan P ops Q k (.op i 0 rest) F a w := by
  refine ⟨o, hi, .inr ?_⟩
  have := h (fun a w => ∃ F' : World → Prop, (∀ w, F' w → F w) ∧ (i = k ∨ F' w) ∧ wpCan P ops Q k rest F' a w) (Lib.hid fun F' _ _ hFF hS h => ⟨F', hFF, .inr hS, h⟩)
  unfold wpOp
  simp only [hi]
  split
  · rename_i hw; rw [if_pos hw] at this; exact .inl this
  · rename_i hw; rw [if_neg hw] at this; exact this
theorem imp (hi : ops[i]? = some o) (h : ∀ K : Act → World → Prop, Go.RowKit.Hid (∀ a w, F w → wpCan P ops Q k rest F a w → K a w) → if Region.wanted o (yielded ops a.tmps) then o.wp P a w K Q else K (a.put o.dst undef) w) : wpCan P ops Q k (.op i 0 rest) F a w :=
  impF hi fun K hK => h K (Lib.hid fun a w hF h => hK.out F a w (fun _ h => h) hF h)
theorem last (hi : ops[k]? = some o) (h : ∀ K : Act → World → Prop, Go.RowKit.Hid (∀ a w, wpCan P ops Q k rest F a w → K a w) → if Region.wanted o (yielded ops a.tmps) then o.wp P a w K Q else K (a.put o.dst undef) w) : wpCan P ops Q k (.op k 0 rest) F a w := by
  refine ⟨o, hi, .inr (wpOp_mono (fun a w h => ⟨F, fun _ h => h, .inl rfl, h⟩) (K := wpCan P ops Q k rest F) ?_)⟩
  have := h (wpCan P ops Q k rest F) (Lib.hid fun _ _ h => h)
  unfold wpOp
  simp only [hi]
  split
  · rename_i hw; rw [if_pos hw] at this; exact .inl this
  · rename_i hw; rw [if_neg hw] at this; exact this
theorem both {l r : Ord} (h1 : wpCan P ops Q k l F a w) (h2 : wpCan P ops Q k r F a w) : wpCan P ops Q k (.fork l r) F a w := ⟨h1, h2⟩
theorem done (h : Q .normal a w) : wpCan P ops (NoPanic Q) k .nil F a w := h
/-- a row of values out of the midst of a block -/
theorem heldR (hi : ops[i]? = some o) (hg : Region.wanted o (yielded ops a.tmps) = true)
    (ty : TypeId) (x : Operand) (ho : o.op = .load ty x) (g p : Nat) (cs : List Value) (hx : a.eval x = .pointer (some ⟨g, p, none⟩)) (hF : ∀ w', F w' → w'.rangeAt g p cs) (d : TypeDesc) (hu : P.underlying ty = some d) (hd : d.isRow = true)
    (hs : (P.info? ty).map (·.size) = some cs.length) (h : ∀ K : Act → Prop, (∀ a, wpCan P ops Q k rest F a w → K a) → K (a.put o.dst (.agg cs.toArray))) : wpCan P ops Q k (.op i 1 rest) F a w := by
  refine held hi hg ⟨.agg cs.toArray, fun w' hF' => ?_, h⟩
  unfold execOp
  simp only [ho, hx, Instr.loadAt, Instr.sureAddr, Sem.run_bind, Sem.run_pure, Result.andThen_ok, run_loadVar_mid w' g p ty cs d (hF w' hF') hu hd hs]
end
end CanT
end Go.Proofs.YtiofkhjpknfkgaaDoor
/- A struct that is built of its parts, over lists of cells. -/
namespace Go.Proofs.YtiofkhjpknfkgaaDoor
namespace Ba
open Go.RowKit
set_option linter.unusedVariables false
theorem fold_set (vs : List Value) : ∀ (cs : Array Value) (off n : Nat), off + n + vs.length ≤ cs.size →
    ((vs.zipIdx n).foldl (fun cs (c, j) => cs.setIfInBounds (off + j) c) cs).toList = cs.toList.take (off + n) ++ vs ++ cs.toList.drop (off + n + vs.length) := by
  induction vs with
  | nil => intro cs off n h; simp
  | cons v vs ih =>
    intro cs off n h
    simp only [List.length_cons] at h
    rw [List.zipIdx_cons, List.foldl_cons, ih _ off (n + 1) (by simp; omega)]
    simp only [Array.toList_setIfInBounds, List.length_cons]
    have hl : off + n < cs.toList.length := by simp; omega
    rw [List.drop_set_of_lt (by omega), ← Nat.add_assoc, List.take_succ_eq_append_getElem (by simpa using hl), List.take_set_of_le (by omega)]
    simp
    omega
def fillL (pl : Nat → Option (Nat × Nat)) : List Value → List (Nat × Value) → Option (List Value)
  | Z, [] => some Z
  | Z, (i, v) :: rest => match pl i with
    | none => none
    | some (off, size) => if v.cells.toList.length ≠ size ∨ off + size > Z.length then none else fillL pl (Z.take off ++ v.cells.toList ++ Z.drop (off + size)) rest
theorem fill_eq (pl : Nat → Option (Nat × Nat)) : ∀ (parts : List (Nat × Value)) (cells : Array Value) (cs : List Value), fillL pl cells.toList parts = some cs → Instr.fill pl cells parts = some cs.toArray
  | [], cells, cs, h => by
    simp only [fillL, Option.some.injEq] at h
    subst h
    simp [Instr.fill]
  | (i, v) :: rest, cells, cs, h => by
    unfold fillL at h
    unfold Instr.fill
    cases hp : pl i with
    | none => rw [hp] at h; cases h
    | some p =>
      obtain ⟨off, size⟩ := p
      rw [hp] at h
      simp only at h ⊢
      split at h
      · cases h
      · rename_i hc
        have h1 : v.cells.size = size := by have : v.cells.toList.length = size := by omega
                                            simpa using this
        have h2 : ¬ (off + size > cells.toList.length) := by omega
        have h3 : off + size ≤ cells.size := by simpa using h2
        rw [if_neg (by simp [h1]; omega)]
        refine fill_eq pl rest _ cs ?_
        have e := fold_set v.cells.toList cells off 0 (by simp; omega)
        have e0 : (v.cells.zipIdx.foldl (fun cs (c, j) => cs.setIfInBounds (off + j) c) cells) = ((v.cells.toList.zipIdx 0).foldl (fun cs (c, j) => cs.setIfInBounds (off + j) c) cells) := by
          rw [← Array.foldl_toList]
          simp
        rw [e0, e]
        simp only [Nat.add_zero, Array.length_toList, h1]
        exact h
/-- a struct's zero cells, and where its parts lie -/
def shapeOf (P : Program) (t : TypeId) : Option (List Value × List (Nat × Nat)) :=
  match P.info? t, P.underlying t with
  | some it, some (.struct fields) =>
    match it.zero, fields.toList.mapM (fun f => (P.info? f.type).map fun i => (f.offset, i.size)) with
    | some z, some places => some (z.cells.toList, places)
    | _, _ => none
  | _, _ => none
theorem run_buildL {P : Program} (w : World) (t : TypeId) (parts : Array (Nat × Value)) (Z : List Value) (pl : List (Nat × Nat)) (hs : shapeOf P t = some (Z, pl)) (cs : List Value) (hf : fillL (pl[·]?) Z parts.toList = some cs) :
    (Instr.build t parts).run P w = .ok (.agg cs.toArray) w := by
  refine run_build w t parts cs.toArray ?_
  unfold shapeOf at hs
  unfold Program.built
  split at hs
  · rename_i it fields h1 h2
    rw [h1, h2]
    simp only
    split at hs
    · rename_i z places h3 h4
      rw [h3, h4]
      simp only [Option.some.injEq, Prod.mk.injEq] at hs
      obtain ⟨rfl, rfl⟩ := hs
      refine fill_eq _ _ _ _ ?_
      simpa using hf
    · cases hs
  · cases hs
theorem run_bsliceL {P : Program} (w : World) (t E : TypeId) (ht : P.underlying t = some (.slice E)) (i : TypeInfo) (sz bytes : Nat) (hi : IsRec P E i sz bytes) (len : Nat) (h0 : 0 < len * sz) (h24 : len * sz ≤ 16777216) (ps : Array (Nat × Value)) (cs : List Value)
    (hf : ∀ Z : List Value, Z.length = len * sz → fillL (fun i => some (i * sz, sz)) Z ps.toList = some cs) :
    (Instr.buildSlice t len ps).run P w = .ok (.slice (some ⟨w.heap.size, 0, none⟩) len len) (w.alloc (.cells cs.toArray E)) := by
  obtain ⟨h1, ⟨z, hz, hzs⟩, h2, h3⟩ := hi
  have hfill := fill_eq (fun i => some (i * sz, sz)) ps.toList ((Array.range (len * sz)).map (z.cells[· % z.cells.size]!)) cs (hf _ (by simp))
  have hs : (sizeOf E).run P w = .ok sz w := by simp [sizeOf, typeInfo, h1, h2]
  have hzv : (zeroValue E).run P w = .ok z w := by simp [zeroValue, typeInfo, h1, hz]
  unfold Instr.buildSlice
  simp only [Sem.run_bind, run_underlying ht, Result.andThen_ok, hs]
  rw [if_neg (by omega), if_neg (by omega)]
  simp only [Sem.run_bind, Sem.run_pure, Result.andThen_ok, hzv, hfill]
  rfl
theorem fill_one (sz : Nat) (v : Value) (h : v.cells.toList.length = sz) (Z : List Value) (hZ : Z.length = 1 * sz) : fillL (fun i => some (i * sz, sz)) Z [(0, v)] = some v.cells.toList := by
  simp only [fillL]
  rw [if_neg (by omega), Nat.zero_mul, Nat.zero_add, List.drop_eq_nil_of_le (by omega)]
  simp
theorem fill_two (sz : Nat) (v u : Value) (h : v.cells.toList.length = sz) (h2 : u.cells.toList.length = sz) (Z : List Value) (hZ : Z.length = 2 * sz) : fillL (fun i => some (i * sz, sz)) Z [(0, v), (1, u)] = some (v.cells.toList ++ u.cells.toList) := by
  simp only [fillL]
  rw [if_neg (by omega), Nat.zero_mul, Nat.zero_add, List.take_zero, List.nil_append]
  rw [if_neg (by simp only [List.length_append, List.length_drop]; omega), Nat.one_mul]
  congr 1
  rw [List.take_append_of_le_length (by omega), List.take_of_length_le (by omega), List.drop_eq_nil_of_le (by simp only [List.length_append, List.length_drop]; omega), List.append_nil]
theorem wp_bslice {P : Program} (w : World) {o : Oper} {a : Act} {K : Act → World → Prop} {Q : Exit → Act → World → Prop} (t E : TypeId) (len : Nat) (parts : Array (Nat × Operand)) (ho : o.op = .buildSlice t len parts)
    (ht : P.underlying t = some (.slice E)) (i : TypeInfo) (sz bytes : Nat) (hi : IsRec P E i sz bytes) (h0 : 0 < len * sz) (h24 : len * sz ≤ 16777216) (ps : List (Nat × Value)) (hps : parts.toList.map (fun (i, x) => (i, a.eval x)) = ps) (cs : List Value)
    (hf : ∀ Z : List Value, Z.length = len * sz → fillL (fun i => some (i * sz, sz)) Z ps = some cs)
    (h : K (a.put o.dst (.slice (some ⟨w.heap.size, 0, none⟩) len len)) (w.alloc (.cells cs.toArray E))) : o.wp P a w K Q := by
  have e : parts.map (fun (i, x) => (i, a.eval x)) = ps.toArray := by apply Array.ext'; rw [Array.toList_map]; exact hps
  unfold Oper.wp execOp
  simp only [ho, Sem.run_bind]
  rw [e, run_bsliceL w t E ht i sz bytes hi len h0 h24 ps.toArray cs hf]
  exact h
theorem step_bslice {P : Program} (w : World) {ops : Array Oper} {o : Oper} {a : Act} {K : Act → World → Prop} {Q : Exit → Act → World → Prop} {R : Prop} (hgd : Region.wanted o (yielded ops a.tmps) = true) (t E : TypeId) (len : Nat) (parts : Array (Nat × Operand)) (ho : o.op = .buildSlice t len parts)
    (ht : P.underlying t = some (.slice E)) (i : TypeInfo) (sz bytes : Nat) (hi : IsRec P E i sz bytes) (h0 : 0 < len * sz) (h24 : len * sz ≤ 16777216) (ps : List (Nat × Value)) (hps : parts.toList.map (fun (i, x) => (i, a.eval x)) = ps) (cs : List Value)
    (hf : ∀ Z : List Value, Z.length = len * sz → fillL (fun i => some (i * sz, sz)) Z ps = some cs)
    (h : K (a.put o.dst (.slice (some ⟨w.heap.size, 0, none⟩) len len)) (w.alloc (.cells cs.toArray E))) : if Region.wanted o (yielded ops a.tmps) = true then Oper.wp P o a w K Q else R := by
  rw [if_pos hgd]
  exact wp_bslice w t E len parts ho ht i sz bytes hi h0 h24 ps hps cs hf h
theorem wpList_bslice {P : Program} (w : World) {ops : Array Oper} {rest : List Oper} {o : Oper} {a : Act} {Q : Exit → Act → World → Prop} (hgd : o.guard = none) (t E : TypeId) (len : Nat) (parts : Array (Nat × Operand)) (ho : o.op = .buildSlice t len parts)
    (ht : P.underlying t = some (.slice E)) (i : TypeInfo) (sz bytes : Nat) (hi : IsRec P E i sz bytes) (h0 : 0 < len * sz) (h24 : len * sz ≤ 16777216) (ps : List (Nat × Value)) (hps : parts.toList.map (fun (i, x) => (i, a.eval x)) = ps) (cs : List Value)
    (hf : ∀ Z : List Value, Z.length = len * sz → fillL (fun i => some (i * sz, sz)) Z ps = some cs)
    (h : wpList P ops Q rest (a.put o.dst (.slice (some ⟨w.heap.size, 0, none⟩) len len)) (w.alloc (.cells cs.toArray E))) : wpList P ops Q (o :: rest) a w :=
  wpList_plain hgd fun _ hK => wp_bslice w t E len parts ho ht i sz bytes hi h0 h24 ps hps cs hf (hK _ _ h)
theorem wpList_bldL {P : Program} (w : World) {ops : Array Oper} {rest : List Oper} {o : Oper} {a : Act} {Q : Exit → Act → World → Prop} (hgd : o.guard = none) (t : TypeId) (parts : Array (Nat × Operand)) (ho : o.op = .build t parts)
    (ps : Array (Nat × Value)) (hps : parts.toList.map (fun (i, x) => (i, a.eval x)) = ps.toList) (cs : Array Value) (hr : (Instr.build t ps).run P w = .ok (.agg cs) w)
    (h : wpList P ops Q rest (a.put o.dst (.agg cs)) w) : wpList P ops Q (o :: rest) a w := by
  refine wpList_plain hgd fun _ hK => ?_
  have e : parts.map (fun (i, x) => (i, a.eval x)) = ps := by apply Array.ext'; rw [Array.toList_map]; exact hps
  unfold Oper.wp execOp
  simp only [ho, Sem.run_bind]
  rw [e, hr]
  exact hK _ _ h
end Ba
namespace CanT
open CanM (St)
open Go.RowKit Ba
variable {P : Program} {ops : Array Oper} {Q : Exit → Act → World → Prop} {F : World → Prop} {k : Nat} {i : Nat} {o : Oper} {a : Act} {w : World} {rest : Ord}
theorem bld (hi : ops[i]? = some o) (hg : Region.wanted o (yielded ops a.tmps) = true) (t : TypeId) (parts : Array (Nat × Operand)) (ho : o.op = .build t parts) (ps : Array (Nat × Value)) (hps : parts.toList.map (fun (i, x) => (i, a.eval x)) = ps.toList) (cs : Array Value)
    (hr : ∀ w', (Instr.build t ps).run P w' = .ok (.agg cs) w') (h : ∀ K : Act → Prop, (∀ a, wpCan P ops Q k rest F a w → K a) → K (a.put o.dst (.agg cs))) : wpCan P ops Q k (.op i 2 rest) F a w := by
  refine pur hi hg ⟨.agg cs, fun w' => ?_, h⟩
  unfold execOp
  simp only [ho, Sem.run_bind]
  have e : parts.map (fun (i, x) => (i, a.eval x)) = ps := by apply Array.ext'; rw [Array.toList_map]; exact hps
  rw [e, hr w']
  rfl
end CanT
end Go.Proofs.YtiofkhjpknfkgaaDoor
/- Slices of bytes, as equations for the walk. -/
namespace Go.Proofs.YtiofkhjpknfkgaaDoor
namespace Ba
open Go.RowKit
set_option linter.unusedVariables false
theorem elem_of {P : Program} {t e : TypeId} (hu : P.underlying t = some (.slice e)) : P.elem t = e := by simp [Program.elem, hu]
/-- x[l:h] -/
theorem sl_lh {P : Program} (t e : TypeId) (i : TypeInfo) (hu : P.underlying t = some (.slice e)) (hi : IsByte P e i) (b o n cap : Nat) (l h : Int) (p k : Nat) (hl : l = p) (hh : h = p + k) (h2 : p + k ≤ cap) (h3 : p < cap) (w : World) :
    (Instr.slice t (.slice (some ⟨b, o, none⟩) n cap) (some (.int .i64 l)) (some (.int .i64 h)) none).run P w = .ok (.slice (some ⟨b, o + p, none⟩) k (cap - p)) w := by
  subst hl hh
  rw [run_slice_lh w t (some ⟨b, o, none⟩) n cap (by rw [elem_of hu]; exact hu) .i64 .i64 (p : Int) ((p : Int) + (k : Int)) (by omega) (by omega) (by omega), elem_of hu]
  have hs : (sizeOf e).run P w = .ok 1 w := by simp [sizeOf, typeInfo, hi.1, hi.2.2.1]
  rw [hs]
  simp only [Result.andThen_ok, sliced]
  have e1 : ((p : Int) + (k : Int)).toNat - (p : Int).toNat = k := by omega
  have e2 : (p : Int).toNat = p := by omega
  rw [e1, e2, if_neg (by omega), Nat.mul_one, Option.map_some, add_lit_]
/-- x[l:], something left of the capacity -/
theorem sl_l {P : Program} (t e : TypeId) (i : TypeInfo) (hu : P.underlying t = some (.slice e)) (hi : IsByte P e i) (A : Option Addr) (n cap : Nat) (l : Int) (p : Nat) (hl : l = p) (h2 : p ≤ n) (w : World) :
    (Instr.slice t (.slice A n cap) (some (.int .i64 l)) none none).run P w = .ok (.slice (if cap = p then A else A.map (·.add p)) (n - p) (cap - p)) w := by
  subst hl
  rw [run_slice_l w t A n cap (by rw [elem_of hu]; exact hu) .i64 (p : Int) (by omega) (by omega), elem_of hu]
  have hs : (sizeOf e).run P w = .ok 1 w := by simp [sizeOf, typeInfo, hi.1, hi.2.2.1]
  rw [hs]
  simp only [Result.andThen_ok, sliced]
  have e2 : (p : Int).toNat = p := by omega
  rw [e2, Nat.mul_one]
/-- x[:h] -/
theorem sl_h {P : Program} (t e : TypeId) (i : TypeInfo) (hu : P.underlying t = some (.slice e)) (hi : IsByte P e i) (A : Option Addr) (n cap : Nat) (h : Int) (k : Nat) (hh : h = k) (h2 : k ≤ cap) (w : World) :
    (Instr.slice t (.slice A n cap) none (some (.int .i64 h)) none).run P w = .ok (.slice A k cap) w := by
  subst hh
  rw [run_slice_h w t A n cap (by rw [elem_of hu]; exact hu) .i64 (k : Int) (by omega) (by omega), elem_of hu]
  have hs : (sizeOf e).run P w = .ok 1 w := by simp [sizeOf, typeInfo, hi.1, hi.2.2.1]
  rw [hs]
  simp only [Result.andThen_ok, sliced]
  have e2 : (k : Int).toNat = k := by omega
  rw [e2, Nat.sub_zero, Nat.sub_zero]
  split
  · rfl
  · cases A <;> simp [Addr.add]
end Ba
namespace CanT
open CanM (St)
open Go.RowKit Ba
variable {P : Program} {ops : Array Oper} {Q : Exit → Act → World → Prop} {F : World → Prop} {k : Nat} {i : Nat} {o : Oper} {a : Act} {w : World} {rest : Ord}
/-- one cell is read, whatever F says of the world -/
theorem cellG (hi : ops[i]? = some o) (hg : Region.wanted o (yielded ops a.tmps) = true) (u v : Value) (p : Addr) (hF : ∀ w', F w' → w'.cell? p = some u)
    (hl : ∀ w', w'.cell? p = some u → (execOp a.eval o).run P w' = .ok (.value v) w')
    (h : ∀ K : Act → Prop, (∀ a, wpCan P ops Q k rest F a w → K a) → K (a.put o.dst v)) : wpCan P ops Q k (.op i 1 rest) F a w :=
  held hi hg ⟨v, fun w' hf => hl w' (hF w' hf), h⟩
end CanT
end Go.Proofs.YtiofkhjpknfkgaaDoor
/- Operations: whether they are the same, and whether they are few and small: plain words. -/
namespace Go.Proofs.YtiofkhjpknfkgaaDoor
namespace Tm
set_option linter.unusedVariables false
def sameO (a b : O) : Bool := (a.copy == b.copy) && (decide (a.pos = b.pos) && (decide (a.n = b.n) && (a.data == b.data)))
def sameK : List O → List O → Bool
  | x :: s, y :: t => if sameO x y then sameK s t else false
  | _, _ => true
def same (a b : List O) : Bool := if a.length = b.length then sameK a b else false
theorem sameO_refl (a : O) : sameO a a = true := by simp [sameO]
theorem sameK_refl : ∀ l : List O, sameK l l = true
  | [] => rfl
  | x :: l => by unfold sameK; rw [if_pos (sameO_refl x)]; exact sameK_refl l
theorem same_refl (l : List O) : same l l = true := by unfold same; rw [if_pos rfl]; exact sameK_refl l
theorem sameK_nil (l m : List O) (k : Nat) (h : l.length ≤ k) : sameK (l.drop k) (m.drop k) = true := by rw [List.drop_of_length_le h]; rfl
def at_ (l : List O) (k : Nat) : O := l.getD k ⟨false, 0, 0, []⟩
theorem drop_at (l : List O) (k : Nat) (h : k < l.length) : l.drop k = at_ l k :: l.drop (k + 1) := by
  rw [List.drop_eq_getElem_cons h]
  simp [at_, List.getD, h]
theorem sameK_step (l m : List O) (k : Nat) (h : k < l.length) (h2 : k < m.length) : sameK (l.drop k) (m.drop k) = if sameO (at_ l k) (at_ m k) then sameK (l.drop (k + 1)) (m.drop (k + 1)) else false := by
  rw [drop_at l k h, drop_at m k h2]
  rfl
def lightK (size : Nat) : List O → Nat → Bool
  | [], _ => true
  | x :: t, n => if size < n + min x.data.length (size + 1) then false else if 1099511627776 < x.n then false else if x.n < -1099511627776 then false else lightK size t (n + min x.data.length (size + 1))
def light (l : List O) (most size : Nat) : Bool := if most < l.length then false else lightK size l 0
def sumD : List O → Nat
  | [] => 0
  | x :: t => x.data.length + sumD t
theorem lightK_sum (size : Nat) : ∀ (l : List O) (n : Nat), n ≤ size → lightK size l n = true → n + sumD l ≤ size ∧ ∀ x ∈ l, -1099511627776 ≤ x.n ∧ x.n ≤ 1099511627776 ∧ x.data.length ≤ size
  | [], n, h0, h => ⟨by simpa [sumD] using h0, by simp⟩
  | x :: t, n, h0, h => by
    unfold lightK at h
    split at h
    · cases h
    rename_i h1
    split at h
    · cases h
    rename_i h2
    split at h
    · cases h
    rename_i h3
    obtain ⟨a1, a2⟩ := lightK_sum size t _ (by omega) h
    refine ⟨by unfold sumD; omega, fun y hy => ?_⟩
    rcases List.mem_cons.1 hy with rfl | hy
    · exact ⟨by omega, by omega, by omega⟩
    · exact a2 y hy
theorem light_facts {l : List O} {most size : Nat} (h : light l most size = true) : l.length ≤ most ∧ sumD l ≤ size ∧ ∀ x ∈ l, -1099511627776 ≤ x.n ∧ x.n ≤ 1099511627776 ∧ x.data.length ≤ size := by
  unfold light at h
  split at h
  · cases h
  · have := lightK_sum size l 0 (Nat.zero_le _) h
    exact ⟨by omega, by omega, this.2⟩
theorem lightK_step (size : Nat) (l : List O) (k n : Nat) (h : k < l.length) : lightK size (l.drop k) n =
    if size < n + min (at_ l k).data.length (size + 1) then false else if 1099511627776 < (at_ l k).n then false else if (at_ l k).n < -1099511627776 then false else lightK size (l.drop (k + 1)) (n + min (at_ l k).data.length (size + 1)) := by
  rw [drop_at l k h]
  rfl
theorem lightK_end (size : Nat) (l : List O) (k n : Nat) (h : l.length ≤ k) : lightK size (l.drop k) n = true := by rw [List.drop_of_length_le h]; rfl
theorem sumD_take (l : List O) (k : Nat) : sumD (l.take k) ≤ sumD l := by
  induction l generalizing k with
  | nil => simp [sumD]
  | cons x l ih =>
    cases k with
    | zero => simp [sumD]
    | succ k => have := ih k; simp only [List.take_succ_cons, sumD]; omega
theorem mem_at (l : List O) (k : Nat) (h : k < l.length) : at_ l k ∈ l := by
  unfold at_
  rw [List.getD_eq_getElem?_getD, List.getElem?_eq_getElem h]
  exact List.getElem_mem h
end Tm
end Go.Proofs.YtiofkhjpknfkgaaDoor
/- A region that draws its order, where all that it reads lies in blocks that were there at its start: F is 'Below' of the world at its start. -/
namespace Go.Proofs.YtiofkhjpknfkgaaDoor
namespace CanB
open CanT Go.RowKit Ba Sm
set_option linter.unusedVariables false
section
variable {P : Program} {ops : Array Oper} {Q : Exit → Act → World → Prop} {k : Nat}
theorem region {id : Nat} {l : List Oper} {a : Act} {w : World} (k : Nat) (ord : Ord) (hm : P.follows .mixedOrders = true)
    (hB : (Region.noSelect l.toArray && okLen ord l.length && canB l.toArray k ord false (Array.replicate l.length false)) = true)
    (h : wpCan P l.toArray (NoPanic Q) k ord (Below w.drew.heap.size w.drew) a w.drew) : (Code.region id l.toArray true).wp P Q a w :=
  CanT.region (Below w.drew.heap.size w.drew) k ord hm hB (Below.refl _ _) h
variable {i : Nat} {o : Oper} {a : Act} {w W : World} {b : Nat} {rest : Ord} {B : Nat}
/-- a row of values is read -/
theorem row (hi : ops[i]? = some o) (hg : Region.wanted o (yielded ops a.tmps) = true)
    (ty : TypeId) (x : Operand) (ho : o.op = .load ty x) (g p : Nat) (cs : List Value) (hx : a.eval x = .pointer (some ⟨g, p, none⟩)) (hR : W.rangeAt g p cs) (hgB : g < B) (d : TypeDesc) (hu : P.underlying ty = some d) (hd : d.isRow = true)
    (hs : (P.info? ty).map (·.size) = some cs.length) (h : ∀ K : Act → Prop, (∀ a, wpCan P ops Q k rest (Below B W) a w → K a) → K (a.put o.dst (.agg cs.toArray))) : wpCan P ops Q k (.op i 1 rest) (Below B W) a w :=
  CanT.heldR hi hg ty x ho g p cs hx (fun w' hF j v hv => (Below.cell (p := ⟨g, p + j, none⟩) hF hgB).trans (hR j v hv)) d hu hd hs h
/-- bytes are read as a text -/
theorem str (hi : ops[i]? = some o) (hg : Region.wanted o (yielded ops a.tmps) = true)
    (src dst e : TypeId) (x : Operand) (ho : o.op = .convert src dst x) (hs : P.underlying src = some (.slice e)) (he : P.underlying e = some (.int .u8)) (hd : P.underlying dst = some .string) (A : Option Addr) (n c : Nat) (l : List UInt8)
    (hx : a.eval x = .slice A n c) (hn : n = l.length) (hR : ReadB W B A l) (h : ∀ K : Act → Prop, (∀ a, wpCan P ops Q k rest (Below B W) a w → K a) → K (a.put o.dst (.string (S l)))) : wpCan P ops Q k (.op i 1 rest) (Below B W) a w := by
  subst hn
  refine CanT.held hi hg ⟨.string (S l), fun w' hF' => ?_, h⟩
  unfold execOp
  simp only [ho, hx, Sem.run_bind, run_strof w' src e hs he A c B l (hR.below hF') dst hd]
  rfl
/-- one cell is read -/
theorem cell (hi : ops[i]? = some o) (hg : Region.wanted o (yielded ops a.tmps) = true) (u v : Value) (p : Addr) (hc : W.cell? p = some u) (hp : p.block < B)
    (hl : ∀ w', w'.cell? p = some u → (execOp a.eval o).run P w' = .ok (.value v) w')
    (h : ∀ K : Act → Prop, (∀ a, wpCan P ops Q k rest (Below B W) a w → K a) → K (a.put o.dst v)) : wpCan P ops Q k (.op i 1 rest) (Below B W) a w :=
  CanT.held hi hg ⟨v, fun w' hF => hl w' ((Below.cell hF hp).trans hc), h⟩
end
end CanB
end Go.Proofs.YtiofkhjpknfkgaaDoor

/- A region that draws its order, holds calls and loads, and ends in a store to what it has read: one walk serves every order. F holds till the operation k comes up, which waits for all that lean on F; behind a call F may be made stronger. -/
import Derived.Test.YtiofkhjpknfkgaaDoorP01
import Derived.Test.YtiofkhjpknfkgaaDoorP02
import Derived.Deep.RegionHeld3
import Derived.Below
import Derived.Laws.Tables
import Derived.Laws.FloatArith
namespace Go.Proofs.YtiofkhjpknfkgaaDoor
namespace CanM
set_option linter.unusedVariables false
section
variable {P : Program} {ops : Array Oper} {Q : Exit → Act → World → Prop} {F : World → Prop} {k : Nat}

def St (F : World → Prop) (k : Nat) (listed : Array Bool) (w : World) : Prop := listed.getD k false = false → F w
theorem St.mono {listed : Array Bool} {w : World} (h : St F k listed w) (i : Nat) : St F k (listed.setIfInBounds i true) w := fun h1 => h (by
  cases hb : listed.getD k false
  · rfl
  · rw [getD_set_true hb] at h1; cases h1)
def wpAnyL (P : Program) (ops : Array Oper) (Q : Exit → Act → World → Prop) (F : World → Prop) (k : Nat) : Nat → Array Bool → Act → World → Prop
  | 0, listed, a, w => Region.ready .any ops listed = [] ∧ Q .normal a w
  | fuel + 1, listed, a, w => (Region.ready .any ops listed = [] → Q .normal a w) ∧
    ∀ i ∈ Region.ready .any ops listed, wpOp P ops Q i (fun a' w' => St F k (listed.setIfInBounds i true) w' ∧ wpAnyL P ops Q F k fuel (listed.setIfInBounds i true) a' w') a w
theorem wpAny_of_L : ∀ (fuel : Nat) (listed : Array Bool) (a : Act) (w : World), wpAnyL P ops Q F k fuel listed a w → wpAny P .any ops Q fuel listed a w
  | 0, _, _, _, h => h
  | fuel + 1, _, _, _, h => ⟨h.1, fun i hi => wpOp_mono (fun a' w' h' => wpAny_of_L fuel _ a' w' h'.2) (h.2 i hi)⟩
/-- the operation k waits for i -/
def waits (ops : Array Oper) (k i : Nat) : Bool := match ops[k]? with | some o => o.after.any fun e => Region.binds .any e && e.on == i | none => true

theorem unlisted_of_ready {listed : Array Bool} {i : Nat} {oj : Oper} (hr : i ∈ Region.ready .any ops listed) (hall : ∀ e ∈ oj.after, Region.binds .any e = true → listed.getD e.on false = true) : ∀ e ∈ oj.after, Region.binds .any e = true → e.on ≠ i := fun e he hb heq => by
  have h1 := hall e he hb
  have h0 := (mem_ready.1 hr).1
  rw [heq] at h1
  rcases Nat.lt_or_ge i listed.size with h' | h'
  · simp [h'] at h0 h1; rw [h0] at h1; cases h1
  · simp [Array.getElem?_eq_none h'] at h1

/-- what yields under F, before k, may be taken first -/
theorem first {i : Nat} {oi : Oper} {v : Value} (hi : ops[i]? = some oi) (hsel : ∀ (j : Nat) (o : Oper) cs b, ops[j]? = some o → o.op ≠ .select cs b)
    (hQ : ∀ c a w, Q (.panic c) (a.put oi.dst v) w → Q (.panic c) a w) (hk : waits ops k i = true) :
    ∀ (fuel : Nat) (listed : Array Bool) (a : Act) (w : World),
      (∀ j oj, ops[j]? = some oj → j ≠ i → listed.getD j true = false → (∀ e ∈ oj.after, Region.binds .any e = true → e.on ≠ i) → oi.apart ops oj = true) →
      i ∈ Region.ready .any ops listed → YieldsIf P ops F oi v a → listed.getD k false = false → F w →
      wpAnyL P ops Q F k fuel (listed.setIfInBounds i true) (a.put oi.dst v) w → wpAnyL P ops Q F k (fuel + 1) listed a w := by
  intro fuel
  induction fuel with
  | zero =>
    intro listed a w _ hr hy hkl hF H
    refine ⟨fun h => (by rw [h] at hr; cases hr), fun j hj => ?_⟩
    by_cases hji : j = i
    · subst hji; exact hy.wpOp hi hF ⟨fun _ => hF, H⟩
    · have := ready_mono hj hji
      rw [H.1] at this
      cases this
  | succ fuel ih =>
    intro listed a w hfree hr hy hkl hF H
    refine ⟨fun h => (by rw [h] at hr; cases hr), fun j hj => ?_⟩
    by_cases hji : j = i
    · subst hji; exact hy.wpOp hi hF ⟨fun _ => hF, H⟩
    · have h1 := H.2 j (ready_mono hj hji)
      obtain ⟨hjun, oj, hoj, hall⟩ := mem_ready.1 hj
      have hnot := unlisted_of_ready hr hall
      have hjk : j ≠ k := fun e => by
        subst e
        unfold waits at hk
        rw [hoj] at hk
        simp only [Array.any_eq_true', Bool.and_eq_true, beq_iff_eq] at hk
        obtain ⟨e, he, hb, heq⟩ := hk
        exact hnot e he hb heq
      have hkl' : (listed.setIfInBounds j true).getD k false = false := by rw [getD_set_ne false hjk]; exact hkl
      have h2 := wpOp_putIf hoj (hfree j oj hoj hji hjun hnot) (fun cs b => hsel i oi cs b hi) (fun cs b => hsel j oj cs b hoj) hQ hy h1
      have hfree' : ∀ m om, ops[m]? = some om → m ≠ i → (listed.setIfInBounds j true).getD m true = false →
          (∀ e ∈ om.after, Region.binds .any e = true → e.on ≠ i) → oi.apart ops om = true := fun m om hm hmi hun hno => by
        refine hfree m om hm hmi ?_ hno
        by_cases hjm : j = m
        · subst hjm; exact hjun
        · rw [getD_set_ne true hjm] at hun; exact hun
      refine wpOp_mono (fun a' w' h3 => ?_) h2
      obtain ⟨hy', hS', h4⟩ := h3
      have hS2 : F w' := hS' (by rw [Array.setIfInBounds_comm _ _ (Ne.symm hji)]; rw [getD_set_ne false (fun e => by
        subst e
        unfold waits at hk
        rw [hi] at hk
        simp only [Array.any_eq_true', Bool.and_eq_true, beq_iff_eq] at hk
        obtain ⟨e, he, hb, heq⟩ := hk
        obtain ⟨hun, oi', hoi', hall'⟩ := mem_ready.1 hr
        rw [hi] at hoi'
        injection hoi' with hoi'
        subst hoi'
        exact unlisted_of_ready hr hall' e he hb heq)]; exact hkl')
      refine ⟨fun _ => hS2, ih (listed.setIfInBounds j true) a' w' hfree' (ready_mono hr (Ne.symm hji)) hy' hkl' hS2 ?_⟩
      rw [Array.setIfInBounds_comm _ _ hji]
      exact h4

/-- what yields in whatever world may be taken first -/
theorem firstAll {i : Nat} {oi : Oper} {v : Value} (hi : ops[i]? = some oi) (hsel : ∀ (j : Nat) (o : Oper) cs b, ops[j]? = some o → o.op ≠ .select cs b)
    (hQ : ∀ c a w, Q (.panic c) (a.put oi.dst v) w → Q (.panic c) a w) (hik : i ≠ k) :
    ∀ (fuel : Nat) (listed : Array Bool) (a : Act) (w : World),
      (∀ j oj, ops[j]? = some oj → j ≠ i → listed.getD j true = false → (∀ e ∈ oj.after, Region.binds .any e = true → e.on ≠ i) → oi.apart ops oj = true) →
      i ∈ Region.ready .any ops listed → Yields P ops oi v a → St F k listed w →
      wpAnyL P ops Q F k fuel (listed.setIfInBounds i true) (a.put oi.dst v) w → wpAnyL P ops Q F k (fuel + 1) listed a w := by
  intro fuel
  induction fuel with
  | zero =>
    intro listed a w _ hr hy hS H
    refine ⟨fun h => (by rw [h] at hr; cases hr), fun j hj => ?_⟩
    by_cases hji : j = i
    · subst hji; exact hy.wpOp hi ⟨hS.mono _, H⟩
    · have := ready_mono hj hji
      rw [H.1] at this
      cases this
  | succ fuel ih =>
    intro listed a w hfree hr hy hS H
    refine ⟨fun h => (by rw [h] at hr; cases hr), fun j hj => ?_⟩
    by_cases hji : j = i
    · subst hji; exact hy.wpOp hi ⟨hS.mono _, H⟩
    · have h1 := H.2 j (ready_mono hj hji)
      obtain ⟨hjun, oj, hoj, hall⟩ := mem_ready.1 hj
      have hnot := unlisted_of_ready hr hall
      have h2 := wpOp_put hoj (hfree j oj hoj hji hjun hnot) (fun cs b => hsel i oi cs b hi) (fun cs b => hsel j oj cs b hoj) hQ hy h1
      have hfree' : ∀ m om, ops[m]? = some om → m ≠ i → (listed.setIfInBounds j true).getD m true = false →
          (∀ e ∈ om.after, Region.binds .any e = true → e.on ≠ i) → oi.apart ops om = true := fun m om hm hmi hun hno => by
        refine hfree m om hm hmi ?_ hno
        by_cases hjm : j = m
        · subst hjm; exact hjun
        · rw [getD_set_ne true hjm] at hun; exact hun
      refine wpOp_mono (fun a' w' h3 => ?_) h2
      obtain ⟨hy', hS', h4⟩ := h3
      have hS2 : St F k (listed.setIfInBounds j true) w' := fun h5 => hS' (by rw [Array.setIfInBounds_comm _ _ (Ne.symm hji), getD_set_ne false hik]; exact h5)
      refine ⟨hS2, ih (listed.setIfInBounds j true) a' w' hfree' (ready_mono hr (Ne.symm hji)) hy' hS2 ?_⟩
      rw [Array.setIfInBounds_comm _ _ hji]
      exact h4

theorem L_mono {F' : World → Prop} (hF : ∀ w, F' w → F w) : ∀ (fuel : Nat) (listed : Array Bool) (a : Act) (w : World), wpAnyL P ops Q F' k fuel listed a w → wpAnyL P ops Q F k fuel listed a w
  | 0, _, _, _, h => h
  | fuel + 1, _, _, _, h => ⟨h.1, fun i hi => wpOp_mono (fun a' w' h' => ⟨fun h1 => hF _ (h'.1 h1), L_mono hF fuel _ a' w' h'.2⟩) (h.2 i hi)⟩
/-- the walk: (i, 0) a call, a store ..; (i, 1) yields under F; (i, 2) yields in whatever world -/
def wpCan (P : Program) (ops : Array Oper) (Q : Exit → Act → World → Prop) (k : Nat) : List (Nat × Nat) → (World → Prop) → Act → World → Prop
  | [], _, a, w => Q .normal a w
  | (i, 0) :: rest, F, a, w => ∃ o, ops[i]? = some o ∧ ((Region.wanted o (yielded ops a.tmps) = false ∧ wpCan P ops Q k rest F (a.put o.dst undef) w) ∨
      wpOp P ops Q i (fun a w => ∃ F' : World → Prop, (∀ w, F' w → F w) ∧ (i = k ∨ F' w) ∧ wpCan P ops Q k rest F' a w) a w)
  | (i, 1) :: rest, F, a, w => ∃ o v, ops[i]? = some o ∧ YieldsIf P ops F o v a ∧ wpCan P ops Q k rest F (a.put o.dst v) w
  | (i, _ + 2) :: rest, F, a, w => ∃ o v, ops[i]? = some o ∧ Yields P ops o v a ∧ wpCan P ops Q k rest F (a.put o.dst v) w
def canB (ops : Array Oper) (k : Nat) : List (Nat × Nat) → Array Bool → Bool
  | [], listed => (Region.ready .any ops listed).isEmpty
  | (i, 0) :: rest, listed => (Region.ready .any ops listed == [i]) && canB ops k rest (listed.setIfInBounds i true) && (!listed.getD k false || rest.all fun x => x.2 == 2) && (i < listed.size)
  | (i, 1) :: rest, listed => (Region.ready .any ops listed).contains i && Region.free .any ops listed i && waits ops k i && !listed.getD k false && canB ops k rest (listed.setIfInBounds i true)
  | (i, _ + 2) :: rest, listed => (Region.ready .any ops listed).contains i && Region.free .any ops listed i && (i != k) && canB ops k rest (listed.setIfInBounds i true)

theorem wpAny_can (hs : Region.noSelect ops = true) (hQ : ∀ c (dst : Option Tmp) v a w, Q (.panic c) (a.put dst v) w → Q (.panic c) a w) :
    ∀ (ord : List (Nat × Nat)) (F : World → Prop) (listed : Array Bool) (a : Act) (w : World), St F k listed w → canB ops k ord listed = true → wpCan P ops Q k ord F a w → wpAnyL P ops Q F k ord.length listed a w
  | [], _, _, _, _, _, hB, h => ⟨by simpa [canB] using hB, h⟩
  | (i, 0) :: rest, F, listed, a, w, hw, hB, h => by
    simp only [canB, Bool.and_eq_true, beq_iff_eq, decide_eq_true_eq] at hB
    obtain ⟨⟨⟨hr, hB'⟩, _⟩, hsz⟩ := hB
    obtain ⟨o, ho, h⟩ := h
    refine ⟨fun h0 => (by rw [hr] at h0; cases h0), fun j hj => ?_⟩
    rw [hr, List.mem_singleton] at hj
    subst hj
    rcases h with ⟨hg, h⟩ | h
    · unfold wpOp
      simp only [ho, hg, Bool.false_eq_true, if_false]
      exact ⟨hw.mono _, wpAny_can hs hQ rest F _ _ _ (hw.mono _) hB' h⟩
    · refine wpOp_mono (fun a w h1 => ?_) h
      obtain ⟨F', hFF, h1, h2⟩ := h1
      have hS : St F' k (listed.setIfInBounds j true) w := fun h5 => by
        rcases h1 with rfl | hF
        · simp [hsz] at h5
        · exact hF
      exact ⟨fun h5 => hFF _ (hS h5), L_mono hFF _ _ _ _ (wpAny_can hs hQ rest F' _ a w hS hB' h2)⟩
  | (i, 1) :: rest, F, listed, a, w, hw, hB, h => by
    simp only [canB, Bool.and_eq_true, Bool.not_eq_true'] at hB
    obtain ⟨⟨⟨⟨hr, hf⟩, hk⟩, hkl⟩, hB'⟩ := hB
    obtain ⟨o, v, ho, hy, h⟩ := h
    exact first ho (Region.noSelect_spec hs) (fun c a w => hQ c o.dst v a w) hk rest.length listed a w (Region.free_spec ho hf) (by simpa using hr) hy hkl (hw hkl) (wpAny_can hs hQ rest F _ _ _ (hw.mono _) hB' h)
  | (i, _ + 2) :: rest, F, listed, a, w, hw, hB, h => by
    simp only [canB, Bool.and_eq_true, bne_iff_ne] at hB
    obtain ⟨⟨⟨hr, hf⟩, hik⟩, hB'⟩ := hB
    obtain ⟨o, v, ho, hy, h⟩ := h
    exact firstAll ho (Region.noSelect_spec hs) (fun c a w => hQ c o.dst v a w) hik rest.length listed a w (Region.free_spec ho hf) (by simpa using hr) hy hw (wpAny_can hs hQ rest F _ _ _ (hw.mono _) hB' h)

theorem region {id : Nat} {l : List Oper} {a : Act} {w : World} (F : World → Prop) (k : Nat) (ord : List (Nat × Nat)) (hm : P.follows .mixedOrders = true)
    (hB : (Region.noSelect l.toArray && (ord.length == l.length) && canB l.toArray k ord (Array.replicate l.length false)) = true) (hF : F w.drew)
    (h : wpCan P l.toArray (NoPanic Q) k ord F a w.drew) : (Code.region id l.toArray true).wp P Q a w := by
  simp only [Bool.and_eq_true, beq_iff_eq] at hB
  refine wp_region_noPanic (wp_region_any hm ?_)
  have := wpAny_of_L _ _ _ _ (wpAny_can (P := P) (Q := NoPanic Q) (k := k) hB.1.1 (fun c dst v a w h => h.elim) ord F (Array.replicate l.length false) a w.drew (fun _ => hF) hB.2 h)
  rw [hB.1.2] at this
  simpa using this

variable {i : Nat} {o : Oper} {a : Act} {w : World} {b : Nat} {rest : List (Nat × Nat)}
theorem held (hi : ops[i]? = some o) (hg : Region.wanted o (yielded ops a.tmps) = true) (hv : ∃ v, (∀ w', F w' → (execOp a.eval o).run P w' = .ok (.value v) w') ∧ ∀ K : Act → Prop, (∀ a, wpCan P ops Q k rest F a w → K a) → K (a.put o.dst v)) : wpCan P ops Q k ((i, 1) :: rest) F a w :=
  let ⟨v, hv, h⟩ := hv; ⟨o, v, hi, .inl ⟨hg, hv⟩, h _ fun _ h => h⟩
theorem pur (hi : ops[i]? = some o) (hg : Region.wanted o (yielded ops a.tmps) = true) (hv : ∃ v, (∀ w', (execOp a.eval o).run P w' = .ok (.value v) w') ∧ ∀ K : Act → Prop, (∀ a, wpCan P ops Q k rest F a w → K a) → K (a.put o.dst v)) : wpCan P ops Q k ((i, 2) :: rest) F a w :=
  let ⟨v, hv, h⟩ := hv; ⟨o, v, hi, .inl ⟨hg, hv⟩, h _ fun _ h => h⟩
theorem skip (hi : ops[i]? = some o) (hg : Region.wanted o (yielded ops a.tmps) = false) (h : ∀ K : Act → Prop, (∀ a, wpCan P ops Q k rest F a w → K a) → K (a.put o.dst undef)) : wpCan P ops Q k ((i, b) :: rest) F a w :=
  match b with
  | 0 => ⟨o, hi, .inl ⟨hg, h _ fun _ h => h⟩⟩
  | 1 => ⟨o, undef, hi, .inr ⟨hg, rfl⟩, h _ fun _ h => h⟩
  | _ + 2 => ⟨o, undef, hi, .inr ⟨hg, rfl⟩, h _ fun _ h => h⟩
theorem impF (hi : ops[i]? = some o) (h : ∀ K : Act → World → Prop, Go.RowKit.Hid (∀ (F' : World → Prop) a w, (∀ w, F' w → F w) → F' w → wpCan P ops Q k rest F' a w → K a w) → if Region.wanted o (yielded ops a.tmps) then o.wp P a w K Q else K (a.put o.dst undef) w) : wpCan P ops Q k ((i, 0) :: rest) F a w := by
  refine ⟨o, hi, .inr ?_⟩
  have := h (fun a w => ∃ F' : World → Prop, (∀ w, F' w → F w) ∧ (i = k ∨ F' w) ∧ wpCan P ops Q k rest F' a w) (Lib.hid fun F' _ _ hFF hS h => ⟨F', hFF, .inr hS, h⟩)
  unfold wpOp
  simp only [hi]
  split
  · rename_i hw; rw [if_pos hw] at this; exact .inl this
  · rename_i hw; rw [if_neg hw] at this; exact this
theorem imp (hi : ops[i]? = some o) (h : ∀ K : Act → World → Prop, Go.RowKit.Hid (∀ a w, F w → wpCan P ops Q k rest F a w → K a w) → if Region.wanted o (yielded ops a.tmps) then o.wp P a w K Q else K (a.put o.dst undef) w) : wpCan P ops Q k ((i, 0) :: rest) F a w :=
  impF hi fun K hK => h K (Lib.hid fun a w hF h => hK.out F a w (fun _ h => h) hF h)
/-- the operation k itself -/
theorem last (hi : ops[k]? = some o) (h : ∀ K : Act → World → Prop, Go.RowKit.Hid (∀ a w, wpCan P ops Q k rest F a w → K a w) → if Region.wanted o (yielded ops a.tmps) then o.wp P a w K Q else K (a.put o.dst undef) w) : wpCan P ops Q k ((k, 0) :: rest) F a w := by
  refine ⟨o, hi, .inr (wpOp_mono (fun a w h => ⟨F, fun _ h => h, .inl rfl, h⟩) (K := wpCan P ops Q k rest F) ?_)⟩
  have := h (wpCan P ops Q k rest F) (Lib.hid fun _ _ h => h)
  unfold wpOp
  simp only [hi]
  split
  · rename_i hw; rw [if_pos hw] at this; exact .inl this
  · rename_i hw; rw [if_neg hw] at this; exact this
theorem done (h : Q .normal a w) : wpCan P ops (NoPanic Q) k [] F a w := h
end
end CanM
end Go.Proofs.YtiofkhjpknfkgaaDoor
/- A region that draws its order, holds calls and loads, and makes several things in an open order: a tree of orders. F holds till the operation k comes up; behind a call F may be made stronger. -/
namespace Go.Proofs.YtiofkhjpknfkgaaDoor
namespace CanT
open CanM (St wpAny_of_L waits first firstAll L_mono)
open Go.RowKit Ba
set_option linter.unusedVariables false
inductive Ord where
  | nil : Ord
  | op : Nat → Nat → Ord → Ord
  | fork : Ord → Ord → Ord
def ofList : List (Nat × Nat) → Ord
  | [] => .nil
  | (i, b) :: l => .op i b (ofList l)
section
variable {P : Program} {ops : Array Oper} {Q : Exit → Act → World → Prop} {F : World → Prop} {k : Nat}
def heads : Ord → List Nat
  | .nil => []
  | .op i _ _ => [i]
  | .fork l r => heads l ++ heads r
def okLen : Ord → Nat → Bool
  | .nil, 0 => true
  | .nil, _ + 1 => false
  | .op _ _ r, n + 1 => okLen r n
  | .op _ _ _, 0 => false
  | .fork l r, n => okLen l n && okLen r n
def wpCan (P : Program) (ops : Array Oper) (Q : Exit → Act → World → Prop) (k : Nat) : Ord → (World → Prop) → Act → World → Prop
  | .nil, _, a, w => Q .normal a w
  | .op i 0 rest, F, a, w => ∃ o, ops[i]? = some o ∧ ((Region.wanted o (yielded ops a.tmps) = false ∧ wpCan P ops Q k rest F (a.put o.dst undef) w) ∨
      wpOp P ops Q i (fun a w => ∃ F' : World → Prop, (∀ w, F' w → F w) ∧ (i = k ∨ F' w) ∧ wpCan P ops Q k rest F' a w) a w)
  | .op i 1 rest, F, a, w => ∃ o v, ops[i]? = some o ∧ YieldsIf P ops F o v a ∧ wpCan P ops Q k rest F (a.put o.dst v) w
  | .op i (_ + 2) rest, F, a, w => ∃ o v, ops[i]? = some o ∧ Yields P ops o v a ∧ wpCan P ops Q k rest F (a.put o.dst v) w
  | .fork l r, F, a, w => wpCan P ops Q k l F a w ∧ wpCan P ops Q k r F a w
def canB (ops : Array Oper) (k : Nat) : Ord → Bool → Array Bool → Bool
  | .nil, inF, listed => !inF && (Region.ready .any ops listed).isEmpty
  | .op i 0 rest, inF, listed => (inF || Region.ready .any ops listed == [i]) && canB ops k rest false (listed.setIfInBounds i true) && (i < listed.size)
  | .op i 1 rest, inF, listed => !inF && ((Region.ready .any ops listed).contains i && Region.free .any ops listed i && waits ops k i && !listed.getD k false && canB ops k rest false (listed.setIfInBounds i true))
  | .op i (_ + 2) rest, inF, listed => !inF && ((Region.ready .any ops listed).contains i && Region.free .any ops listed i && (i != k) && canB ops k rest false (listed.setIfInBounds i true))
  | .fork l r, inF, listed => (inF || Region.ready .any ops listed == heads l ++ heads r) && canB ops k l true listed && canB ops k r true listed
theorem heads_ne : ∀ (t : Ord) (listed : Array Bool), canB ops k t true listed = true → heads t ≠ []
  | .nil, _, h => by simp [canB] at h
  | .op i _ _, _, _ => by simp [heads]
  | .fork l r, listed, h => by
    simp only [canB, Bool.true_or, Bool.true_and, Bool.and_eq_true] at h
    have := heads_ne l listed h.1
    simp only [heads]
    intro h2
    exact this (List.append_eq_nil_iff.1 h2).1
theorem wpAny_can (hs : Region.noSelect ops = true) (hQ : ∀ c (dst : Option Tmp) v a w, Q (.panic c) (a.put dst v) w → Q (.panic c) a w) :
    ∀ (t : Ord) (F : World → Prop) (n : Nat) (listed : Array Bool) (a : Act) (w : World), St F k listed w → okLen t n = true → wpCan P ops Q k t F a w →
      (canB ops k t false listed = true → CanM.wpAnyL P ops Q F k n listed a w) ∧
      (canB ops k t true listed = true → ∃ m, n = m + 1 ∧ ∀ j ∈ heads t, wpOp P ops Q j (fun a' w' => St F k (listed.setIfInBounds j true) w' ∧ CanM.wpAnyL P ops Q F k m (listed.setIfInBounds j true) a' w') a w)
  | .nil, F, 0, listed, a, w, hw, hl, h => ⟨fun hB => ⟨by simpa [canB] using hB, h⟩, fun hB => by simp [canB] at hB⟩
  | .nil, F, n + 1, listed, a, w, hw, hl, h => by simp [okLen] at hl
  | .op i b rest, F, 0, listed, a, w, hw, hl, h => by simp [okLen] at hl
  | .op i 0 rest, F, n + 1, listed, a, w, hw, hl, h => by
    obtain ⟨o, ho, h⟩ := h
    have key : canB ops k rest false (listed.setIfInBounds i true) = true → i < listed.size → wpOp P ops Q i (fun a' w' => St F k (listed.setIfInBounds i true) w' ∧ CanM.wpAnyL P ops Q F k n (listed.setIfInBounds i true) a' w') a w := by
      intro hB' hsz
      rcases h with ⟨hg, h⟩ | h
      · unfold wpOp
        simp only [ho, hg, Bool.false_eq_true, if_false]
        exact ⟨hw.mono _, (wpAny_can hs hQ rest F n _ _ _ (hw.mono _) hl h).1 hB'⟩
      · refine wpOp_mono (fun a w h1 => ?_) h
        obtain ⟨F', hFF, h1, h2⟩ := h1
        have hS : St F' k (listed.setIfInBounds i true) w := fun h5 => by
          rcases h1 with rfl | hF
          · simp [hsz] at h5
          · exact hF
        exact ⟨fun h5 => hFF _ (hS h5), L_mono hFF _ _ _ _ ((wpAny_can hs hQ rest F' n _ a w hS hl h2).1 hB')⟩
    refine ⟨fun hB => ?_, fun hB => ⟨n, rfl, fun j hj => ?_⟩⟩
    · simp only [canB, Bool.false_or, Bool.and_eq_true, beq_iff_eq, decide_eq_true_eq] at hB
      obtain ⟨⟨hr, hB'⟩, hsz⟩ := hB
      refine ⟨fun h0 => (by rw [hr] at h0; cases h0), fun j hj => ?_⟩
      rw [hr, List.mem_singleton] at hj
      subst hj
      exact key hB' hsz
    · simp only [canB, Bool.true_or, Bool.true_and, Bool.and_eq_true, decide_eq_true_eq] at hB
      simp only [heads, List.mem_singleton] at hj
      subst hj
      exact key hB.1 hB.2
  | .op i 1 rest, F, n + 1, listed, a, w, hw, hl, h => by
    refine ⟨fun hB => ?_, fun hB => by simp [canB] at hB⟩
    simp only [canB, Bool.not_false, Bool.true_and, Bool.and_eq_true, Bool.not_eq_true'] at hB
    obtain ⟨⟨⟨⟨hr, hf⟩, hk⟩, hkl⟩, hB'⟩ := hB
    obtain ⟨o, v, ho, hy, h⟩ := h
    exact first ho (Region.noSelect_spec hs) (fun c a w => hQ c o.dst v a w) hk n listed a w (Region.free_spec ho hf) (by simpa using hr) hy hkl (hw hkl) ((wpAny_can hs hQ rest F n _ _ _ (hw.mono _) hl h).1 hB')
  | .op i (_ + 2) rest, F, n + 1, listed, a, w, hw, hl, h => by
    refine ⟨fun hB => ?_, fun hB => by simp [canB] at hB⟩
    simp only [canB, Bool.not_false, Bool.true_and, Bool.and_eq_true, bne_iff_ne] at hB
    obtain ⟨⟨⟨hr, hf⟩, hik⟩, hB'⟩ := hB
    obtain ⟨o, v, ho, hy, h⟩ := h
    exact firstAll ho (Region.noSelect_spec hs) (fun c a w => hQ c o.dst v a w) hik n listed a w (Region.free_spec ho hf) (by simpa using hr) hy hw ((wpAny_can hs hQ rest F n _ _ _ (hw.mono _) hl h).1 hB')
  | .fork l r, F, n, listed, a, w, hw, hl, h => by
    simp only [okLen, Bool.and_eq_true] at hl
    have key : canB ops k l true listed = true → canB ops k r true listed = true → ∃ m, n = m + 1 ∧ ∀ j ∈ heads l ++ heads r, wpOp P ops Q j (fun a' w' => St F k (listed.setIfInBounds j true) w' ∧ CanM.wpAnyL P ops Q F k m (listed.setIfInBounds j true) a' w') a w := by
      intro h1 h2
      obtain ⟨m, hm, g1⟩ := (wpAny_can hs hQ l F n listed a w hw hl.1 h.1).2 h1
      obtain ⟨m', hm', g2⟩ := (wpAny_can hs hQ r F n listed a w hw hl.2 h.2).2 h2
      have : m' = m := by omega
      subst this
      refine ⟨m', hm, fun j hj => ?_⟩
      rcases List.mem_append.1 hj with h | h
      · exact g1 j h
      · exact g2 j h
    refine ⟨fun hB => ?_, fun hB => ?_⟩
    · simp only [canB, Bool.false_or, Bool.and_eq_true, beq_iff_eq] at hB
      obtain ⟨m, rfl, hk⟩ := key hB.1.2 hB.2
      have hne := heads_ne l listed hB.1.2
      refine ⟨fun h0 => ?_, fun j hj => hk j (by rw [← hB.1.1]; exact hj)⟩
      rw [hB.1.1] at h0
      exact absurd (List.append_eq_nil_iff.1 h0).1 hne
    · simp only [canB, Bool.true_or, Bool.true_and, Bool.and_eq_true] at hB
      exact key hB.1 hB.2

theorem region {id : Nat} {l : List Oper} {a : Act} {w : World} (F : World → Prop) (k : Nat) (ord : Ord) (hm : P.follows .mixedOrders = true)
    (hB : (Region.noSelect l.toArray && okLen ord l.length && canB l.toArray k ord false (Array.replicate l.length false)) = true) (hF : F w.drew)
    (h : wpCan P l.toArray (NoPanic Q) k ord F a w.drew) : (Code.region id l.toArray true).wp P Q a w := by
  simp only [Bool.and_eq_true] at hB
  refine wp_region_noPanic (wp_region_any hm ?_)
  have := wpAny_of_L _ _ _ _ ((wpAny_can (P := P) (Q := NoPanic Q) (k := k) hB.1.1 (fun c dst v a w h => h.elim) ord F l.length (Array.replicate l.length false) a w.drew (fun _ => hF) hB.1.2 h).1 hB.2)
  simpa using this

variable {i : Nat} {o : Oper} {a : Act} {w : World} {b : Nat} {rest : Ord}
theorem held (hi : ops[i]? = some o) (hg : Region.wanted o (yielded ops a.tmps) = true) (hv : ∃ v, (∀ w', F w' → (execOp a.eval o).run P w' = .ok (.value v) w') ∧ ∀ K : Act → Prop, (∀ a, wpCan P ops Q k rest F a w → K a) → K (a.put o.dst v)) : wpCan P ops Q k (.op i 1 rest) F a w :=
  let ⟨v, hv, h⟩ := hv; ⟨o, v, hi, .inl ⟨hg, hv⟩, h _ fun _ h => h⟩
theorem pur (hi : ops[i]? = some o) (hg : Region.wanted o (yielded ops a.tmps) = true) (hv : ∃ v, (∀ w', (execOp a.eval o).run P w' = .ok (.value v) w') ∧ ∀ K : Act → Prop, (∀ a, wpCan P ops Q k rest F a w → K a) → K (a.put o.dst v)) : wpCan P ops Q k (.op i 2 rest) F a w :=
  let ⟨v, hv, h⟩ := hv; ⟨o, v, hi, .inl ⟨hg, hv⟩, h _ fun _ h => h⟩
theorem skip (hi : ops[i]? = some o) (hg : Region.wanted o (yielded ops a.tmps) = false) (h : ∀ K : Act → Prop, (∀ a, wpCan P ops Q k rest F a w → K a) → K (a.put o.dst undef)) : wpCan P ops Q k (.op i b rest) F a w :=
  match b with
  | 0 => ⟨o, hi, .inl ⟨hg, h _ fun _ h => h⟩⟩
  | 1 => ⟨o, undef, hi, .inr ⟨hg, rfl⟩, h _ fun _ h => h⟩
  | _ + 2 => ⟨o, undef, hi, .inr ⟨hg, rfl⟩, h _ fun _ h => h⟩
theorem impF (hi : ops[i]? = some o) (h : ∀ K : Act → World → Prop, Go.RowKit.Hid (∀ (F' : World → Prop) a w, (∀ w, F' w → F w) → F' w → wpCan P ops Q k rest F' a w → K a w) → if Region.wanted o (yielded ops a.tmps) then o.wp P a w K Q else K (a.put o.dst undef) w) : wpCan P ops Q k (.op i 0 rest) F a w := by
  refine ⟨o, hi, .inr ?_⟩
  have := h (fun a w => ∃ F' : World → Prop, (∀ w, F' w → F w) ∧ (i = k ∨ F' w) ∧ wpCan P ops Q k rest F' a w) (Lib.hid fun F' _ _ hFF hS h => ⟨F', hFF, .inr hS, h⟩)
  unfold wpOp
  simp only [hi]
  split
  · rename_i hw; rw [if_pos hw] at this; exact .inl this
  · rename_i hw; rw [if_neg hw] at this; exact this
theorem imp (hi : ops[i]? = some o) (h : ∀ K : Act → World → Prop, Go.RowKit.Hid (∀ a w, F w → wpCan P ops Q k rest F a w → K a w) → if Region.wanted o (yielded ops a.tmps) then o.wp P a w K Q else K (a.put o.dst undef) w) : wpCan P ops Q k (.op i 0 rest) F a w :=
  impF hi fun K hK => h K (Lib.hid fun a w hF h => hK.out F a w (fun _ h => h) hF h)
theorem last (hi : ops[k]? = some o) (h : ∀ K : Act → World → Prop, Go.RowKit.Hid (∀ a w, wpCan P ops Q k rest F a w → K a w) → if Region.wanted o (yielded ops a.tmps) then o.wp P a w K Q else K (a.put o.dst undef) w) : wpCan P ops Q k (.op k 0 rest) F a w := by
  refine ⟨o, hi, .inr (wpOp_mono (fun a w h => ⟨F, fun _ h => h, .inl rfl, h⟩) (K := wpCan P ops Q k rest F) ?_)⟩
  have := h (wpCan P ops Q k rest F) (Lib.hid fun _ _ h => h)
  unfold wpOp
  simp only [hi]
  split
  · rename_i hw; rw [if_pos hw] at this; exact .inl this
  · rename_i hw; rw [if_neg hw] at this; exact this
theorem both {l r : Ord} (h1 : wpCan P ops Q k l F a w) (h2 : wpCan P ops Q k r F a w) : wpCan P ops Q k (.fork l r) F a w := ⟨h1, h2⟩
theorem done (h : Q .normal a w) : wpCan P ops (NoPanic Q) k .nil F a w := h
/-- a row of values out of the midst of a block -/
theorem heldR (hi : ops[i]? = some o) (hg : Region.wanted o (yielded ops a.tmps) = true)
    (ty : TypeId) (x : Operand) (ho : o.op = .load ty x) (g p : Nat) (cs : List Value) (hx : a.eval x = .pointer (some ⟨g, p, none⟩)) (hF : ∀ w', F w' → w'.rangeAt g p cs) (d : TypeDesc) (hu : P.underlying ty = some d) (hd : d.isRow = true)
    (hs : (P.info? ty).map (·.size) = some cs.length) (h : ∀ K : Act → Prop, (∀ a, wpCan P ops Q k rest F a w → K a) → K (a.put o.dst (.agg cs.toArray))) : wpCan P ops Q k (.op i 1 rest) F a w := by
  refine held hi hg ⟨.agg cs.toArray, fun w' hF' => ?_, h⟩
  unfold execOp
  simp only [ho, hx, Instr.loadAt, Instr.sureAddr, Sem.run_bind, Sem.run_pure, Result.andThen_ok, run_loadVar_mid w' g p ty cs d (hF w' hF') hu hd hs]
end
end CanT
end Go.Proofs.YtiofkhjpknfkgaaDoor
/- A struct that is built of its parts, over lists of cells. -/
namespace Go.Proofs.YtiofkhjpknfkgaaDoor
namespace Ba
open Go.RowKit
set_option linter.unusedVariables false
theorem fold_set (vs : List Value) : ∀ (cs : Array Value) (off n : Nat), off + n + vs.length ≤ cs.size →
    ((vs.zipIdx n).foldl (fun cs (c, j) => cs.setIfInBounds (off + j) c) cs).toList = cs.toList.take (off + n) ++ vs ++ cs.toList.drop (off + n + vs.length) := by
  induction vs with
  | nil => intro cs off n h; simp
  | cons v vs ih =>
    intro cs off n h
    simp only [List.length_cons] at h
    rw [List.zipIdx_cons, List.foldl_cons, ih _ off (n + 1) (by simp; omega)]
    simp only [Array.toList_setIfInBounds, List.length_cons]
    have hl : off + n < cs.toList.length := by simp; omega
    rw [List.drop_set_of_lt (by omega), ← Nat.add_assoc, List.take_succ_eq_append_getElem (by simpa using hl), List.take_set_of_le (by omega)]
    simp
    omega
def fillL (pl : Nat → Option (Nat × Nat)) : List Value → List (Nat × Value) → Option (List Value)
  | Z, [] => some Z
  | Z, (i, v) :: rest => match pl i with
    | none => none
    | some (off, size) => if v.cells.toList.length ≠ size ∨ off + size > Z.length then none else fillL pl (Z.take off ++ v.cells.toList ++ Z.drop (off + size)) rest
theorem fill_eq (pl : Nat → Option (Nat × Nat)) : ∀ (parts : List (Nat × Value)) (cells : Array Value) (cs : List Value), fillL pl cells.toList parts = some cs → Instr.fill pl cells parts = some cs.toArray
  | [], cells, cs, h => by
    simp only [fillL, Option.some.injEq] at h
    subst h
    simp [Instr.fill]
  | (i, v) :: rest, cells, cs, h => by
    unfold fillL at h
    unfold Instr.fill
    cases hp : pl i with
    | none => rw [hp] at h; cases h
    | some p =>
      obtain ⟨off, size⟩ := p
      rw [hp] at h
      simp only at h ⊢
      split at h
      · cases h
      · rename_i hc
        have h1 : v.cells.size = size := by have : v.cells.toList.length = size := by omega
                                            simpa using this
        have h2 : ¬ (off + size > cells.toList.length) := by omega
        have h3 : off + size ≤ cells.size := by simpa using h2
        rw [if_neg (by simp [h1]; omega)]
        refine fill_eq pl rest _ cs ?_
        have e := fold_set v.cells.toList cells off 0 (by simp; omega)
        have e0 : (v.cells.zipIdx.foldl (fun cs (c, j) => cs.setIfInBounds (off + j) c) cells) = ((v.cells.toList.zipIdx 0).foldl (fun cs (c, j) => cs.setIfInBounds (off + j) c) cells) := by
          rw [← Array.foldl_toList]
          simp
        rw [e0, e]
        simp only [Nat.add_zero, Array.length_toList, h1]
        exact h
/-- a struct's zero cells, and where its parts lie -/
def shapeOf (P : Program) (t : TypeId) : Option (List Value × List (Nat × Nat)) :=
  match P.info? t, P.underlying t with
  | some it, some (.struct fields) =>
    match it.zero, fields.toList.mapM (fun f => (P.info? f.type).map fun i => (f.offset, i.size)) with
    | some z, some places => some (z.cells.toList, places)
    | _, _ => none
  | _, _ => none
theorem run_buildL {P : Program} (w : World) (t : TypeId) (parts : Array (Nat × Value)) (Z : List Value) (pl : List (Nat × Nat)) (hs : shapeOf P t = some (Z, pl)) (cs : List Value) (hf : fillL (pl[·]?) Z parts.toList = some cs) :
    (Instr.build t parts).run P w = .ok (.agg cs.toArray) w := by
  refine run_build w t parts cs.toArray ?_
  unfold shapeOf at hs
  unfold Program.built
  split at hs
  · rename_i it fields h1 h2
    rw [h1, h2]
    simp only
    split at hs
    · rename_i z places h3 h4
      rw [h3, h4]
      simp only [Option.some.injEq, Prod.mk.injEq] at hs
      obtain ⟨rfl, rfl⟩ := hs
      refine fill_eq _ _ _ _ ?_
      simpa using hf
    · cases hs
  · cases hs
theorem run_bsliceL {P : Program} (w : World) (t E : TypeId) (ht : P.underlying t = some (.slice E)) (i : TypeInfo) (sz bytes : Nat) (hi : IsRec P E i sz bytes) (len : Nat) (h0 : 0 < len * sz) (h24 : len * sz ≤ 16777216) (ps : Array (Nat × Value)) (cs : List Value)
    (hf : ∀ Z : List Value, Z.length = len * sz → fillL (fun i => some (i * sz, sz)) Z ps.toList = some cs) :
    (Instr.buildSlice t len ps).run P w = .ok (.slice (some ⟨w.heap.size, 0, none⟩) len len) (w.alloc (.cells cs.toArray E)) := by
  obtain ⟨h1, ⟨z, hz, hzs⟩, h2, h3⟩ := hi
  have hfill := fill_eq (fun i => some (i * sz, sz)) ps.toList ((Array.range (len * sz)).map (z.cells[· % z.cells.size]!)) cs (hf _ (by simp))
  have hs : (sizeOf E).run P w = .ok sz w := by simp [sizeOf, typeInfo, h1, h2]
  have hzv : (zeroValue E).run P w = .ok z w := by simp [zeroValue, typeInfo, h1, hz]
  unfold Instr.buildSlice
  simp only [Sem.run_bind, run_underlying ht, Result.andThen_ok, hs]
  rw [if_neg (by omega), if_neg (by omega)]
  simp only [Sem.run_bind, Sem.run_pure, Result.andThen_ok, hzv, hfill]
  rfl
theorem fill_one (sz : Nat) (v : Value) (h : v.cells.toList.length = sz) (Z : List Value) (hZ : Z.length = 1 * sz) : fillL (fun i => some (i * sz, sz)) Z [(0, v)] = some v.cells.toList := by
  simp only [fillL]
  rw [if_neg (by omega), Nat.zero_mul, Nat.zero_add, List.drop_eq_nil_of_le (by omega)]
  simp
theorem fill_two (sz : Nat) (v u : Value) (h : v.cells.toList.length = sz) (h2 : u.cells.toList.length = sz) (Z : List Value) (hZ : Z.length = 2 * sz) : fillL (fun i => some (i * sz, sz)) Z [(0, v), (1, u)] = some (v.cells.toList ++ u.cells.toList) := by
  simp only [fillL]
  rw [if_neg (by omega), Nat.zero_mul, Nat.zero_add, List.take_zero, List.nil_append]
  rw [if_neg (by simp only [List.length_append, List.length_drop]; omega), Nat.one_mul]
  congr 1
  rw [List.take_append_of_le_length (by omega), List.take_of_length_le (by omega), List.drop_eq_nil_of_le (by simp only [List.length_append, List.length_drop]; omega), List.append_nil]
theorem wp_bslice {P : Program} (w : World) {o : Oper} {a : Act} {K : Act → World → Prop} {Q : Exit → Act → World → Prop} (t E : TypeId) (len : Nat) (parts : Array (Nat × Operand)) (ho : o.op = .buildSlice t len parts)
    (ht : P.underlying t = some (.slice E)) (i : TypeInfo) (sz bytes : Nat) (hi : IsRec P E i sz bytes) (h0 : 0 < len * sz) (h24 : len * sz ≤ 16777216) (ps : List (Nat × Value)) (hps : parts.toList.map (fun (i, x) => (i, a.eval x)) = ps) (cs : List Value)
    (hf : ∀ Z : List Value, Z.length = len * sz → fillL (fun i => some (i * sz, sz)) Z ps = some cs)
    (h : K (a.put o.dst (.slice (some ⟨w.heap.size, 0, none⟩) len len)) (w.alloc (.cells cs.toArray E))) : o.wp P a w K Q := by
  have e : parts.map (fun (i, x) => (i, a.eval x)) = ps.toArray := by apply Array.ext'; rw [Array.toList_map]; exact hps
  unfold Oper.wp execOp
  simp only [ho, Sem.run_bind]
  rw [e, run_bsliceL w t E ht i sz bytes hi len h0 h24 ps.toArray cs hf]
  exact h
theorem step_bslice {P : Program} (w : World) {ops : Array Oper} {o : Oper} {a : Act} {K : Act → World → Prop} {Q : Exit → Act → World → Prop} {R : Prop} (hgd : Region.wanted o (yielded ops a.tmps) = true) (t E : TypeId) (len : Nat) (parts : Array (Nat × Operand)) (ho : o.op = .buildSlice t len parts)
    (ht : P.underlying t = some (.slice E)) (i : TypeInfo) (sz bytes : Nat) (hi : IsRec P E i sz bytes) (h0 : 0 < len * sz) (h24 : len * sz ≤ 16777216) (ps : List (Nat × Value)) (hps : parts.toList.map (fun (i, x) => (i, a.eval x)) = ps) (cs : List Value)
    (hf : ∀ Z : List Value, Z.length = len * sz → fillL (fun i => some (i * sz, sz)) Z ps = some cs)
    (h : K (a.put o.dst (.slice (some ⟨w.heap.size, 0, none⟩) len len)) (w.alloc (.cells cs.toArray E))) : if Region.wanted o (yielded ops a.tmps) = true then Oper.wp P o a w K Q else R := by
  rw [if_pos hgd]
  exact wp_bslice w t E len parts ho ht i sz bytes hi h0 h24 ps hps cs hf h
theorem wpList_bslice {P : Program} (w : World) {ops : Array Oper} {rest : List Oper} {o : Oper} {a : Act} {Q : Exit → Act → World → Prop} (hgd : o.guard = none) (t E : TypeId) (len : Nat) (parts : Array (Nat × Operand)) (ho : o.op = .buildSlice t len parts)
    (ht : P.underlying t = some (.slice E)) (i : TypeInfo) (sz bytes : Nat) (hi : IsRec P E i sz bytes) (h0 : 0 < len * sz) (h24 : len * sz ≤ 16777216) (ps : List (Nat × Value)) (hps : parts.toList.map (fun (i, x) => (i, a.eval x)) = ps) (cs : List Value)
    (hf : ∀ Z : List Value, Z.length = len * sz → fillL (fun i => some (i * sz, sz)) Z ps = some cs)
    (h : wpList P ops Q rest (a.put o.dst (.slice (some ⟨w.heap.size, 0, none⟩) len len)) (w.alloc (.cells cs.toArray E))) : wpList P ops Q (o :: rest) a w :=
  wpList_plain hgd fun _ hK => wp_bslice w t E len parts ho ht i sz bytes hi h0 h24 ps hps cs hf (hK _ _ h)
theorem wpList_bldL {P : Program} (w : World) {ops : Array Oper} {rest : List Oper} {o : Oper} {a : Act} {Q : Exit → Act → World → Prop} (hgd : o.guard = none) (t : TypeId) (parts : Array (Nat × Operand)) (ho : o.op = .build t parts)
    (ps : Array (Nat × Value)) (hps : parts.toList.map (fun (i, x) => (i, a.eval x)) = ps.toList) (cs : Array Value) (hr : (Instr.build t ps).run P w = .ok (.agg cs) w)
    (h : wpList P ops Q rest (a.put o.dst (.agg cs)) w) : wpList P ops Q (o :: rest) a w := by
  refine wpList_plain hgd fun _ hK => ?_
  have e : parts.map (fun (i, x) => (i, a.eval x)) = ps := by apply Array.ext'; rw [Array.toList_map]; exact hps
  unfold Oper.wp execOp
  simp only [ho, Sem.run_bind]
  rw [e, hr]
  exact hK _ _ h
end Ba
namespace CanT
open CanM (St)
open Go.RowKit Ba
variable {P : Program} {ops : Array Oper} {Q : Exit → Act → World → Prop} {F : World → Prop} {k : Nat} {i : Nat} {o : Oper} {a : Act} {w : World} {rest : Ord}
theorem bld (hi : ops[i]? = some o) (hg : Region.wanted o (yielded ops a.tmps) = true) (t : TypeId) (parts : Array (Nat × Operand)) (ho : o.op = .build t parts) (ps : Array (Nat × Value)) (hps : parts.toList.map (fun (i, x) => (i, a.eval x)) = ps.toList) (cs : Array Value)
    (hr : ∀ w', (Instr.build t ps).run P w' = .ok (.agg cs) w') (h : ∀ K : Act → Prop, (∀ a, wpCan P ops Q k rest F a w → K a) → K (a.put o.dst (.agg cs))) : wpCan P ops Q k (.op i 2 rest) F a w := by
  refine pur hi hg ⟨.agg cs, fun w' => ?_, h⟩
  unfold execOp
  simp only [ho, Sem.run_bind]
  have e : parts.map (fun (i, x) => (i, a.eval x)) = ps := by apply Array.ext'; rw [Array.toList_map]; exact hps
  rw [e, hr w']
  rfl
end CanT
end Go.Proofs.YtiofkhjpknfkgaaDoor
/- Whole numbers as floats of 64 bits: sums, differences, products and orders of them are exact. -/
namespace Go.Proofs.YtiofkhjpknfkgaaDoor
namespace Flo
open Ieee
set_option linter.unusedVariables false
/-- the datum stands for a whole number (a nought is the positive one) -/
def Rep (d : Datum) (a : Int) : Prop := ∃ s m k, d = .number s m (-(k : Nat) : Int) ∧ (m : Int) = a.natAbs * 2 ^ k ∧ s = decide (a < 0)
def FL (a : Int) : Nat := double.write (.number (decide (a < 0)) a.natAbs 0)
theorem shl (m k : Nat) : m <<< k = m * 2 ^ k := Nat.shiftLeft_eq m k
theorem signed_nat (s : Bool) (m e : Nat) : signed s m e = if s then -((m : Int) * 2 ^ e) else (m : Int) * 2 ^ e := by
  unfold signed
  rw [shl, Int.natCast_mul, Int.natCast_pow]
  rfl
theorem signed_eq (a : Int) (m k e : Nat) (hm : (m : Int) = a.natAbs * 2 ^ k) : signed (decide (a < 0)) m e = a * 2 ^ (k + e) := by
  rw [signed_nat, hm, Int.mul_assoc, ← Int.pow_add]
  by_cases h : a < 0
  · simp only [h, decide_true, if_true]
    rw [← Int.neg_mul]
    congr 1
    omega
  · simp only [h, decide_false, Bool.false_eq_true, if_false]
    congr 1
    omega
theorem sign_mul (x : Int) (K : Nat) : (x * 2 ^ K < 0 ↔ x < 0) ∧ (x * 2 ^ K = 0 ↔ x = 0) := by
  have hp : (0 : Int) < 2 ^ K := Int.pow_pos (by omega)
  refine ⟨⟨fun h => ?_, fun h => Int.mul_neg_of_neg_of_pos h hp⟩, ⟨fun h => ?_, fun h => by rw [h, Int.zero_mul]⟩⟩
  · rcases Int.lt_or_le x 0 with h1 | h1
    · exact h1
    · have := Int.mul_nonneg h1 (Int.le_of_lt hp); omega
  · rcases Int.mul_eq_zero.1 h with h | h
    · exact h
    · omega
theorem rep_total {a b : Int} {K : Nat} {z : Bool} (hz : a + b = 0 → z = false) : Rep (.number (if (a + b) * 2 ^ K = 0 then z else decide ((a + b) * 2 ^ K < 0)) ((a + b) * 2 ^ K).natAbs (-(K : Nat) : Int)) (a + b) := by
  refine ⟨_, _, K, rfl, ?_, ?_⟩
  · rw [Int.natAbs_mul, Int.natCast_mul]
    congr 1
  · by_cases h0 : a + b = 0
    · rw [if_pos ((sign_mul _ _).2.2 h0), hz h0, h0]
      rfl
    · rw [if_neg (fun h => h0 ((sign_mul _ _).2.1 h)), decide_eq_decide]
      exact (sign_mul _ _).1
theorem two_places (a b : Int) (m n k j : Nat) (s t : Bool) (hs : ∀ e, signed s m e = a * 2 ^ (k + e)) (ht : ∀ e, signed t n e = b * 2 ^ (j + e)) (hz : a + b = 0 → (s && t) = false) :
    ∃ d'', (Datum.number s m (-(k : Nat) : Int)).sum (.number t n (-(j : Nat) : Int)) = some d'' ∧ Rep d'' (a + b) := by
  refine ⟨_, rfl, ?_⟩
  have hb : min (-(k : Int)) (-(j : Int)) = -((max k j : Nat) : Int) := by omega
  rw [hb]
  have e1 : (-(k : Int) - -((max k j : Nat) : Int)).toNat = max k j - k := by omega
  have e2 : (-(j : Int) - -((max k j : Nat) : Int)).toNat = max k j - j := by omega
  rw [e1, e2, hs, ht, show k + (max k j - k) = max k j by omega, show j + (max k j - j) = max k j by omega, ← Int.add_mul]
  exact rep_total hz
theorem rep_sum {d d' : Datum} {a b : Int} (h : Rep d a) (h' : Rep d' b) : ∃ d'', d.sum d' = some d'' ∧ Rep d'' (a + b) := by
  obtain ⟨s, m, k, rfl, hm, rfl⟩ := h
  obtain ⟨t, n, j, rfl, hn, rfl⟩ := h'
  refine two_places a b m n k j _ _ (signed_eq a m k · hm) (signed_eq b n j · hn) (fun h => ?_)
  by_cases ha : a < 0
  · have : ¬ b < 0 := by omega
    simp [this]
  · simp [ha]
theorem rep_sub {d d' : Datum} {a b : Int} (h : Rep d a) (h' : Rep d' b) : ∃ d'', d.sum d'.opposite = some d'' ∧ Rep d'' (a - b) := by
  obtain ⟨s, m, k, rfl, hm, rfl⟩ := h
  obtain ⟨t, n, j, rfl, hn, rfl⟩ := h'
  have hneg : ∀ e, signed (!decide (b < 0)) n e = -b * 2 ^ (j + e) := fun e => by
    have := signed_eq b n j e hn
    rw [signed_nat] at this ⊢
    rw [Int.neg_mul, ← this]
    by_cases hb : b < 0 <;> simp [hb]
  have := two_places a (-b) m n k j _ _ (signed_eq a m k · hm) hneg (fun h => by
    by_cases ha : a < 0
    · have : b < 0 := by omega
      simp [this]
    · simp [ha])
  rw [Int.sub_eq_add_neg]
  exact this
theorem rep_mul {d d' : Datum} {a b : Int} (h : Rep d a) (h' : Rep d' b) (ha : 0 ≤ a) (hb : 0 ≤ b) : ∃ d'', d.product d' = some d'' ∧ Rep d'' (a * b) := by
  obtain ⟨s, m, k, rfl, hm, rfl⟩ := h
  obtain ⟨t, n, j, rfl, hn, rfl⟩ := h'
  refine ⟨_, rfl, decide (a * b < 0), m * n, k + j, ?_, ?_, rfl⟩
  · congr 1
    · have h1 : ¬ a < 0 := by omega
      have h2 : ¬ b < 0 := by omega
      have h3 : ¬ a * b < 0 := by have := Int.mul_nonneg ha hb; omega
      simp [h1, h2, h3]
    · omega
  · rw [Int.natCast_mul, hm, hn, Int.natAbs_mul, Int.natCast_mul, Int.pow_add]
    simp only [Int.mul_assoc]
    congr 1
    rw [Int.mul_left_comm]
theorem rep_toInt {d : Datum} {a : Int} (h : Rep d a) : d.toInt .zero = some a := by
  obtain ⟨s, m, k, rfl, hm, rfl⟩ := h
  have hm' : m = a.natAbs * 2 ^ k := by have := hm; rw [← Int.natCast_inj, hm, Int.natCast_mul, Int.natCast_pow]; rfl
  have hcut : Toward.cut .zero (decide (a < 0)) m k = a.natAbs := by
    unfold Toward.cut
    have hgap : (1 : Nat) <<< min k (m.log2 + 2) = 2 ^ k ∨ m = 0 := by
      rcases Nat.eq_zero_or_pos m with h0 | h0
      · exact .inr h0
      · left
        have hk : k ≤ m.log2 := by
          rw [Nat.le_log2 (by omega)]
          rw [hm']
          have : 1 ≤ a.natAbs := by
            rcases Nat.eq_zero_or_pos a.natAbs with h1 | h1
            · rw [h1] at hm'; omega
            · exact h1
          calc 2 ^ k = 1 * 2 ^ k := by omega
            _ ≤ a.natAbs * 2 ^ k := Nat.mul_le_mul_right _ this
        rw [show min k (m.log2 + 2) = k by omega, shl, Nat.one_mul]
    rcases hgap with hg | h0
    · simp only [hg, Bool.toNat_false, Nat.add_zero]
      rw [hm', Nat.mul_div_cancel _ (Nat.pow_pos (by omega))]
    · have : a.natAbs = 0 := by
        rw [h0] at hm'
        rcases Nat.mul_eq_zero.1 hm'.symm with h | h
        · exact h
        · have := Nat.pow_pos (n := k) (show 0 < 2 by omega); omega
      simp [h0, this]
  unfold Datum.toInt Datum.integral
  simp only [show ((-(k : Int)).toNat) = 0 by omega, show (-(-(k : Int))).toNat = k by omega]
  rw [shl, Nat.pow_zero, Nat.mul_one, hcut]
  have := signed_eq a a.natAbs 0 0 (by simp)
  rw [this]
  simp
theorem rep_integral {d : Datum} {a : Int} (h : Rep d a) : Rep (d.integral .zero) a := by
  have h1 := rep_toInt h
  obtain ⟨s, m, k, rfl, hm, rfl⟩ := h
  unfold Datum.toInt at h1
  unfold Datum.integral at h1
  simp only [Option.some.injEq] at h1
  show Rep (.number (decide (a < 0)) (Toward.zero.cut (decide (a < 0)) (m <<< (-(k : Int)).toNat) (-(-(k : Int))).toNat) 0) a
  generalize hq : Toward.zero.cut (decide (a < 0)) (m <<< (-(k : Int)).toNat) (-(-(k : Int))).toNat = q at *
  refine ⟨_, q, 0, rfl, ?_, rfl⟩
  rw [signed_nat] at h1
  by_cases ha : a < 0
  · simp only [ha, decide_true, if_true] at h1; omega
  · simp only [ha, decide_false, Bool.false_eq_true, if_false] at h1; omega
theorem rep_order {d d' : Datum} {a b : Int} (h : Rep d a) (h' : Rep d' b) : d.order d' = some (compare a b) := by
  obtain ⟨s, m, k, rfl, hm, rfl⟩ := h
  obtain ⟨t, n, j, rfl, hn, rfl⟩ := h'
  unfold Datum.order
  have hb : min (-(k : Int)) (-(j : Int)) = -((max k j : Nat) : Int) := by omega
  simp only [hb]
  have e1 : (-(k : Int) - -((max k j : Nat) : Int)).toNat = max k j - k := by omega
  have e2 : (-(j : Int) - -((max k j : Nat) : Int)).toNat = max k j - j := by omega
  rw [e1, e2, signed_eq a m k _ hm, signed_eq b n j _ hn, show k + (max k j - k) = max k j by omega, show j + (max k j - j) = max k j by omega]
  generalize max k j = K
  congr 1
  have hs := sign_mul (a - b) K
  rw [Int.sub_mul] at hs
  show compareOfLessAndEq _ _ = compareOfLessAndEq a b
  have i1 : a * 2 ^ K < b * 2 ^ K ↔ a < b := by
    constructor
    · intro h; have := hs.1.1 (by omega); omega
    · intro h; have := hs.1.2 (by omega); omega
  have i2 : a * 2 ^ K = b * 2 ^ K ↔ a = b := by
    constructor
    · intro h; have := hs.2.1 (by omega); omega
    · intro h; rw [h]
  unfold compareOfLessAndEq
  simp only [i1, i2]
theorem log2_shift (m k : Nat) (h : 0 < m) : (m * 2 ^ k).log2 = m.log2 + k := by
  have hp : 0 < 2 ^ k := Nat.pow_pos (by omega)
  have h1 := (Nat.log2_eq_iff (by omega : m ≠ 0)).1 (rfl : m.log2 = m.log2)
  rw [Nat.log2_eq_iff (by have := Nat.mul_pos h hp; omega)]
  constructor
  · rw [Nat.pow_add]; exact Nat.mul_le_mul_right _ h1.1
  · rw [show m.log2 + k + 1 = (m.log2 + 1) + k by omega, Nat.pow_add]
    exact Nat.mul_lt_mul_of_pos_right h1.2 hp
def canon (neg : Bool) (m : Nat) : Nat := double.word neg (if m = 0 then 0 else (m.log2 + 1022) * 4503599627370496 + m * 2 ^ (52 - m.log2))
theorem cut_exact (neg : Bool) (n d : Nat) : Toward.even.cut neg (n * 2 ^ d) d = n := by
  have key : ∀ gap, n * 2 ^ d / gap = n → n * 2 ^ d % gap = 0 → gap ≠ 0 → (n * 2 ^ d / gap + (decide (gap < 2 * (n * 2 ^ d % gap)) || gap == 2 * (n * 2 ^ d % gap) && n * 2 ^ d / gap % 2 == 1).toNat) = n := by
    intro gap h1 h2 h3
    rw [h1, h2]
    simp [h3]
  unfold Toward.cut
  refine key _ ?_ ?_ ?_
  · rcases Nat.eq_zero_or_pos n with h0 | h0
    · subst h0; simp
    · rw [log2_shift n d h0, show min d (n.log2 + d + 2) = d by omega, shl, Nat.one_mul, Nat.mul_div_cancel _ (Nat.pow_pos (by omega))]
  · rcases Nat.eq_zero_or_pos n with h0 | h0
    · subst h0; simp
    · rw [log2_shift n d h0, show min d (n.log2 + d + 2) = d by omega, shl, Nat.one_mul, Nat.mul_mod_left]
  · rw [shl, Nat.one_mul]
    have := Nat.pow_pos (n := min d ((n * 2 ^ d).log2 + 2)) (show 0 < 2 by omega)
    omega
theorem log2_53 (m : Nat) (h0 : 0 < m) (h : m < 9007199254740992) : m.log2 ≤ 52 := by
  have := (Nat.log2_lt (by omega : m ≠ 0) (k := 53)).2 h
  omega
theorem min_lem (L q : Nat) (hL : L ≤ 52) (hq : q < 9007199254740992) : min ((L + 1022) * 4503599627370496 + q) 9218868437227405312 = (L + 1022) * 4503599627370496 + q := by omega
theorem near (neg : Bool) (m k : Nat) (h0 : 0 < m) (h : m < 9007199254740992) : double.nearest neg (m * 2 ^ k) (-(k : Nat) : Int) = canon neg m := by
  have hp : 0 < 2 ^ k := Nat.pow_pos (by omega)
  have hL := log2_53 m h0 h
  have hmk : m * 2 ^ k ≠ 0 := by have := Nat.mul_pos h0 hp; omega
  unfold Format.nearest canon
  rw [if_neg hmk, if_neg (by omega), log2_shift m k h0]
  have hlast : max (-(k : Int) + ((m.log2 + k : Nat) : Int) - ((double.fractionBits : Nat) : Int)) double.leastPlace = (m.log2 : Int) - 52 := by
    show max (-(k : Int) + ((m.log2 + k : Nat) : Int) - (52 : Int)) (-1074) = _
    omega
  simp only [hlast]
  have hfirst : ((m.log2 : Int) - 52 - double.leastPlace).toNat = m.log2 + 1022 := by
    show ((m.log2 : Int) - 52 - (-1074)).toNat = _
    omega
  simp only [hfirst]
  have hkept : Toward.even.cut neg ((m * 2 ^ k) <<< (-(k : Int) - ((m.log2 : Int) - 52)).toNat) ((m.log2 : Int) - 52 - -(k : Int)).toNat = m * 2 ^ (52 - m.log2) := by
    rcases Nat.le_total (m.log2 + k) 52 with hc | hc
    · rw [show ((m.log2 : Int) - 52 - -(k : Int)).toNat = 0 by omega, show (-(k : Int) - ((m.log2 : Int) - 52)).toNat = 52 - m.log2 - k by omega, shl]
      have := cut_exact neg (m * 2 ^ k * 2 ^ (52 - m.log2 - k)) 0
      rw [Nat.pow_zero, Nat.mul_one] at this
      rw [this, Nat.mul_assoc, ← Nat.pow_add, show k + (52 - m.log2 - k) = 52 - m.log2 by omega]
    · rw [show ((m.log2 : Int) - 52 - -(k : Int)).toNat = k - (52 - m.log2) by omega, show (-(k : Int) - ((m.log2 : Int) - 52)).toNat = 0 by omega, shl, Nat.pow_zero, Nat.mul_one]
      have e : m * 2 ^ k = (m * 2 ^ (52 - m.log2)) * 2 ^ (k - (52 - m.log2)) := by
        rw [Nat.mul_assoc, ← Nat.pow_add, show 52 - m.log2 + (k - (52 - m.log2)) = k by omega]
      rw [e, cut_exact]
  simp only [hkept]
  have hb : double.binade = 4503599627370496 := rfl
  have hi : double.infRung = 9218868437227405312 := rfl
  have hm := ((Nat.log2_eq_iff (by omega : m ≠ 0)).1 (rfl : m.log2 = m.log2)).2
  have hk2 : m * 2 ^ (52 - m.log2) < 9007199254740992 := by
    calc m * 2 ^ (52 - m.log2) < 2 ^ (m.log2 + 1) * 2 ^ (52 - m.log2) := Nat.mul_lt_mul_of_pos_right hm (Nat.pow_pos (by omega))
      _ = 9007199254740992 := by rw [← Nat.pow_add, show m.log2 + 1 + (52 - m.log2) = 53 by omega]
  rw [hb, hi, min_lem _ _ hL hk2]
theorem write_rep {d : Datum} {a : Int} (h : Rep d a) (ha : a.natAbs < 9007199254740992) : double.write d = canon (decide (a < 0)) a.natAbs := by
  obtain ⟨s, m, k, rfl, hm, rfl⟩ := h
  have hm' : m = a.natAbs * 2 ^ k := by rw [← Int.natCast_inj, hm, Int.natCast_mul, Int.natCast_pow]; rfl
  rcases Nat.eq_zero_or_pos a.natAbs with h0 | h0
  · have hm0 : m = 0 := by rw [hm', h0, Nat.zero_mul]
    rw [hm0]
    show double.nearest _ _ _ = _
    unfold Format.nearest canon
    rw [if_pos rfl, h0, if_pos rfl]
  · rw [hm']
    exact near _ _ k h0 ha
theorem FL_canon (a : Int) (ha : a.natAbs < 9007199254740992) : FL a = canon (decide (a < 0)) a.natAbs :=
  write_rep ⟨_, _, 0, rfl, by simp, rfl⟩ ha
theorem write_FL {d : Datum} {a : Int} (h : Rep d a) (ha : a.natAbs < 9007199254740992) : double.write d = FL a := by rw [write_rep h ha, FL_canon a ha]
theorem read_FL (a : Int) (ha : a.natAbs < 9007199254740992) : Rep (double.read (FL a)) a := by
  rw [FL_canon a ha]
  rcases Nat.eq_zero_or_pos a.natAbs with h0 | h0
  · have : a = 0 := by omega
    subst this
    exact ⟨false, 0, 1074, rfl, by rw [Int.natAbs_zero]; exact (Int.zero_mul _).symm, rfl⟩
  · generalize hs : decide (a < 0) = s
    generalize hmm : a.natAbs = m at *
    have hL := log2_53 m h0 ha
    have hm := (Nat.log2_eq_iff (by omega : m ≠ 0)).1 (rfl : m.log2 = m.log2)
    have hk2 : m * 2 ^ (52 - m.log2) < 9007199254740992 := by
      calc m * 2 ^ (52 - m.log2) < 2 ^ (m.log2 + 1) * 2 ^ (52 - m.log2) := Nat.mul_lt_mul_of_pos_right hm.2 (Nat.pow_pos (by omega))
        _ = 9007199254740992 := by rw [← Nat.pow_add, show m.log2 + 1 + (52 - m.log2) = 53 by omega]
    have hk1 : 4503599627370496 ≤ m * 2 ^ (52 - m.log2) := by
      calc 4503599627370496 = 2 ^ m.log2 * 2 ^ (52 - m.log2) := by rw [← Nat.pow_add, show m.log2 + (52 - m.log2) = 52 by omega]
        _ ≤ m * 2 ^ (52 - m.log2) := Nat.mul_le_mul_right _ hm.1
    obtain ⟨q, hq⟩ : ∃ q, q = m * 2 ^ (52 - m.log2) := ⟨_, rfl⟩
    obtain ⟨L, hLL⟩ : ∃ L, L = m.log2 := ⟨_, rfl⟩
    have hc : canon s m = double.word s ((L + 1022) * 4503599627370496 + q) := by rw [canon, if_neg (by omega), ← hq, ← hLL]
    have hval : (q : Int) = (m : Int) * 2 ^ (52 - L) := by rw [hq, hLL, Int.natCast_mul, Int.natCast_pow]; rfl
    rw [← hq] at hk1 hk2
    rw [← hLL] at hL
    clear hq hLL hm
    rw [hc]
    have hsw : double.signWeight = 9223372036854775808 := rfl
    have hb : double.binade = 4503599627370496 := rfl
    have hi : double.infRung = 9218868437227405312 := rfl
    have hl : double.leastPlace = -1074 := rfl
    have hword : double.word s ((L + 1022) * 4503599627370496 + q) = (if s then 9223372036854775808 else 0) + ((L + 1022) * 4503599627370496 + q) := by
      unfold Format.word
      rw [hsw]
      cases s <;> simp
    have hlt : (L + 1022) * 4503599627370496 + q < 9223372036854775808 := by omega
    have hdiv : double.word s ((L + 1022) * 4503599627370496 + q) / 9223372036854775808 % 2 = (if s then 1 else 0) := by
      rw [hword]
      cases s
      · simp only [Bool.false_eq_true, if_false]; omega
      · simp only [if_true]; omega
    have hmod : double.word s ((L + 1022) * 4503599627370496 + q) % 9223372036854775808 = (L + 1022) * 4503599627370496 + q := by
      rw [hword]
      cases s
      · simp only [Bool.false_eq_true, if_false]; omega
      · simp only [if_true]; omega
    unfold Format.read
    simp only [hsw, hdiv, hmod, hb, hi, hl]
    rw [if_neg (by omega), if_pos (by omega)]
    have e1 : ((L + 1022) * 4503599627370496 + q) % 4503599627370496 = q - 4503599627370496 := by omega
    have e2 : ((L + 1022) * 4503599627370496 + q) / 4503599627370496 = L + 1023 := by omega
    rw [e1, e2]
    refine ⟨s, 4503599627370496 + (q - 4503599627370496), 52 - L, ?_, ?_, ?_⟩
    · have es : ((if s = true then 1 else 0) == 1) = s := by cases s <;> rfl
      have ep : (-1074 : Int) + ((L + 1023 - 1 : Nat) : Int) = -((52 - L : Nat) : Int) := by omega
      rw [es, ep]
    · rw [hmm, ← hval]; omega
    · rw [hs]
theorem add_FL (a b : Int) (ha : a.natAbs < 9007199254740992) (hb : b.natAbs < 9007199254740992) (hs : (a + b).natAbs < 9007199254740992) : double.add (FL a) (FL b) = some (FL (a + b)) := by
  obtain ⟨d, h1, h2⟩ := rep_sum (read_FL a ha) (read_FL b hb)
  unfold Format.add
  rw [h1, Option.map_some, write_FL h2 hs]
theorem sub_FL (a b : Int) (ha : a.natAbs < 9007199254740992) (hb : b.natAbs < 9007199254740992) (hs : (a - b).natAbs < 9007199254740992) : double.sub (FL a) (FL b) = some (FL (a - b)) := by
  obtain ⟨d, h1, h2⟩ := rep_sub (read_FL a ha) (read_FL b hb)
  unfold Format.sub
  rw [h1, Option.map_some, write_FL h2 hs]
theorem mul_FL (a b : Int) (ha : a.natAbs < 9007199254740992) (hb : b.natAbs < 9007199254740992) (h0 : 0 ≤ a) (h1 : 0 ≤ b) (hs : (a * b).natAbs < 9007199254740992) : double.mul (FL a) (FL b) = some (FL (a * b)) := by
  obtain ⟨d, h2, h3⟩ := rep_mul (read_FL a ha) (read_FL b hb) h0 h1
  unfold Format.mul
  rw [h2, Option.map_some, write_FL h3 hs]
theorem order_FL (a b : Int) (ha : a.natAbs < 9007199254740992) (hb : b.natAbs < 9007199254740992) : double.order (FL a) (FL b) = some (compare a b) := rep_order (read_FL a ha) (read_FL b hb)
theorem trunc_FL (a : Int) (ha : a.natAbs < 9007199254740992) : double.write ((double.read (FL a)).integral .zero) = FL a := write_FL (rep_integral (read_FL a ha)) ha
theorem toInt_FL (a : Int) (ha : a.natAbs < 9007199254740992) : (double.read (FL a)).toInt .zero = some a := rep_toInt (read_FL a ha)
theorem floatOfInt_FL (a : Int) : floatOfInt .f64 a = FL a := rfl
end Flo
end Go.Proofs.YtiofkhjpknfkgaaDoor

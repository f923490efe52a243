/- A region that draws its order, holds calls and loads, and ends in a store to what it has read: one walk serves every order. F holds till the operation k comes up, which waits for all that lean on F; behind a call F may be made stronger. -/
import Derived.Test.YtcbkhbnemhkheaaBase2
import Derived.Deep.RegionHeld3
import Derived.Below
namespace Go.Proofs.Ytcbkhbnemhkheaa
namespace CanM
set_option linter.unusedVariables false
section
variable {P : Program} {ops : Array Oper} {Q : Exit → Act → World → Prop} {F : World → Prop} {k : Nat}

def St (F : World → Prop) (k : Nat) (listed : Array Bool) (w : World) : Prop := listed.getD k false = false → F w
theorem St.mono {listed : Array Bool} {w : World} (h : St F k listed w) (i : Nat) : St F k (listed.setIfInBounds i true) w := fun h1 => h (by
  cases hb : listed.getD k false
  · rfl
  · rw [getD_set_true hb] at h1; cases h1)
def wpAnyL (P : Program) (ops : Array Oper) (Q : Exit → Act → World → Prop) (F : World → Prop) (k : Nat) : Nat → Array Bool → Act → World → Prop
  | 0, listed, a, w => Region.ready .any ops listed = [] ∧ Q .normal a w
  | fuel + 1, listed, a, w => (Region.ready .any ops listed = [] → Q .normal a w) ∧
    ∀ i ∈ Region.ready .any ops listed, wpOp P ops Q i (fun a' w' => St F k (listed.setIfInBounds i true) w' ∧ wpAnyL P ops Q F k fuel (listed.setIfInBounds i true) a' w') a w
theorem wpAny_of_L : ∀ (fuel : Nat) (listed : Array Bool) (a : Act) (w : World), wpAnyL P ops Q F k fuel listed a w → wpAny P .any ops Q fuel listed a w
  | 0, _, _, _, h => h
  | fuel + 1, _, _, _, h => ⟨h.1, fun i hi => wpOp_mono (fun a' w' h' => wpAny_of_L fuel _ a' w' h'.2) (h.2 i hi)⟩
/-- the operation k waits for i -/
def waits (ops : Array Oper) (k i : Nat) : Bool := match ops[k]? with | some o => o.after.any fun e => Region.binds .any e && e.on == i | none => true

theorem unlisted_of_ready {listed : Array Bool} {i : Nat} {oj : Oper} (hr : i ∈ Region.ready .any ops listed) (hall : ∀ e ∈ oj.after, Region.binds .any e = true → listed.getD e.on false = true) : ∀ e ∈ oj.after, Region.binds .any e = true → e.on ≠ i := fun e he hb heq => by
  have h1 := hall e he hb
  have h0 := (mem_ready.1 hr).1
  rw [heq] at h1
  rcases Nat.lt_or_ge i listed.size with h' | h'
  · simp [h'] at h0 h1; rw [h0] at h1; cases h1
  · simp [Array.getElem?_eq_none h'] at h1

/-- what yields under F, before k, may be taken first -/
theorem first {i : Nat} {oi : Oper} {v : Value} (hi : ops[i]? = some oi) (hsel : ∀ (j : Nat) (o : Oper) cs b, ops[j]? = some o → o.op ≠ .select cs b)
    (hQ : ∀ c a w, Q (.panic c) (a.put oi.dst v) w → Q (.panic c) a w) (hk : waits ops k i = true) :
    ∀ (fuel : Nat) (listed : Array Bool) (a : Act) (w : World),
      (∀ j oj, ops[j]? = some oj → j ≠ i → listed.getD j true = false → (∀ e ∈ oj.after, Region.binds .any e = true → e.on ≠ i) → oi.apart ops oj = true) →
      i ∈ Region.ready .any ops listed → YieldsIf P ops F oi v a → listed.getD k false = false → F w →
      wpAnyL P ops Q F k fuel (listed.setIfInBounds i true) (a.put oi.dst v) w → wpAnyL P ops Q F k (fuel + 1) listed a w := by
  intro fuel
  induction fuel with
  | zero =>
    intro listed a w _ hr hy hkl hF H
    refine ⟨fun h => (by rw [h] at hr; cases hr), fun j hj => ?_⟩
    by_cases hji : j = i
    · subst hji; exact hy.wpOp hi hF ⟨fun _ => hF, H⟩
    · have := ready_mono hj hji
      rw [H.1] at this
      cases this
  | succ fuel ih =>
    intro listed a w hfree hr hy hkl hF H
    refine ⟨fun h => (by rw [h] at hr; cases hr), fun j hj => ?_⟩
    by_cases hji : j = i
    · subst hji; exact hy.wpOp hi hF ⟨fun _ => hF, H⟩
    · have h1 := H.2 j (ready_mono hj hji)
      obtain ⟨hjun, oj, hoj, hall⟩ := mem_ready.1 hj
      have hnot := unlisted_of_ready hr hall
      have hjk : j ≠ k := fun e => by
        subst e
        unfold waits at hk
        rw [hoj] at hk
        simp only [Array.any_eq_true', Bool.and_eq_true, beq_iff_eq] at hk
        obtain ⟨e, he, hb, heq⟩ := hk
        exact hnot e he hb heq
      have hkl' : (listed.setIfInBounds j true).getD k false = false := by rw [getD_set_ne false hjk]; exact hkl
      have h2 := wpOp_putIf hoj (hfree j oj hoj hji hjun hnot) (fun cs b => hsel i oi cs b hi) (fun cs b => hsel j oj cs b hoj) hQ hy h1
      have hfree' : ∀ m om, ops[m]? = some om → m ≠ i → (listed.setIfInBounds j true).getD m true = false →
          (∀ e ∈ om.after, Region.binds .any e = true → e.on ≠ i) → oi.apart ops om = true := fun m om hm hmi hun hno => by
        refine hfree m om hm hmi ?_ hno
        by_cases hjm : j = m
        · subst hjm; exact hjun
        · rw [getD_set_ne true hjm] at hun; exact hun
      refine wpOp_mono (fun a' w' h3 => ?_) h2
      obtain ⟨hy', hS', h4⟩ := h3
      have hS2 : F w' := hS' (by rw [Array.setIfInBounds_comm _ _ (Ne.symm hji)]; rw [getD_set_ne false (fun e => by
        subst e
        unfold waits at hk
        rw [hi] at hk
        simp only [Array.any_eq_true', Bool.and_eq_true, beq_iff_eq] at hk
        obtain ⟨e, he, hb, heq⟩ := hk
        obtain ⟨hun, oi', hoi', hall'⟩ := mem_ready.1 hr
        rw [hi] at hoi'
        injection hoi' with hoi'
        subst hoi'
        exact unlisted_of_ready hr hall' e he hb heq)]; exact hkl')
      refine ⟨fun _ => hS2, ih (listed.setIfInBounds j true) a' w' hfree' (ready_mono hr (Ne.symm hji)) hy' hkl' hS2 ?_⟩
      rw [Array.setIfInBounds_comm _ _ hji]
      exact h4

/-- what yields in whatever world may be taken first -/
theorem firstAll {i : Nat} {oi : Oper} {v : Value} (hi : ops[i]? = some oi) (hsel : ∀ (j : Nat) (o : Oper) cs b, ops[j]? = some o → o.op ≠ .select cs b)
    (hQ : ∀ c a w, Q (.panic c) (a.put oi.dst v) w → Q (.panic c) a w) (hik : i ≠ k) :
    ∀ (fuel : Nat) (listed : Array Bool) (a : Act) (w : World),
      (∀ j oj, ops[j]? = some oj → j ≠ i → listed.getD j true = false → (∀ e ∈ oj.after, Region.binds .any e = true → e.on ≠ i) → oi.apart ops oj = true) →
      i ∈ Region.ready .any ops listed → Yields P ops oi v a → St F k listed w →
      wpAnyL P ops Q F k fuel (listed.setIfInBounds i true) (a.put oi.dst v) w → wpAnyL P ops Q F k (fuel + 1) listed a w := by
  intro fuel
  induction fuel with
  | zero =>
    intro listed a w _ hr hy hS H
    refine ⟨fun h => (by rw [h] at hr; cases hr), fun j hj => ?_⟩
    by_cases hji : j = i
    · subst hji; exact hy.wpOp hi ⟨hS.mono _, H⟩
    · have := ready_mono hj hji
      rw [H.1] at this
      cases this
  | succ fuel ih =>
    intro listed a w hfree hr hy hS H
    refine ⟨fun h => (by rw [h] at hr; cases hr), fun j hj => ?_⟩
    by_cases hji : j = i
    · subst hji; exact hy.wpOp hi ⟨hS.mono _, H⟩
    · have h1 := H.2 j (ready_mono hj hji)
      obtain ⟨hjun, oj, hoj, hall⟩ := mem_ready.1 hj
      have hnot := unlisted_of_ready hr hall
      have h2 := wpOp_put hoj (hfree j oj hoj hji hjun hnot) (fun cs b => hsel i oi cs b hi) (fun cs b => hsel j oj cs b hoj) hQ hy h1
      have hfree' : ∀ m om, ops[m]? = some om → m ≠ i → (listed.setIfInBounds j true).getD m true = false →
          (∀ e ∈ om.after, Region.binds .any e = true → e.on ≠ i) → oi.apart ops om = true := fun m om hm hmi hun hno => by
        refine hfree m om hm hmi ?_ hno
        by_cases hjm : j = m
        · subst hjm; exact hjun
        · rw [getD_set_ne true hjm] at hun; exact hun
      refine wpOp_mono (fun a' w' h3 => ?_) h2
      obtain ⟨hy', hS', h4⟩ := h3
      have hS2 : St F k (listed.setIfInBounds j true) w' := fun h5 => hS' (by rw [Array.setIfInBounds_comm _ _ (Ne.symm hji), getD_set_ne false hik]; exact h5)
      refine ⟨hS2, ih (listed.setIfInBounds j true) a' w' hfree' (ready_mono hr (Ne.symm hji)) hy' hS2 ?_⟩
      rw [Array.setIfInBounds_comm _ _ hji]
      exact h4

theorem L_mono {F' : World → Prop} (hF : ∀ w, F' w → F w) : ∀ (fuel : Nat) (listed : Array Bool) (a : Act) (w : World), wpAnyL P ops Q F' k fuel listed a w → wpAnyL P ops Q F k fuel listed a w
  | 0, _, _, _, h => h
  | fuel + 1, _, _, _, h => ⟨h.1, fun i hi => wpOp_mono (fun a' w' h' => ⟨fun h1 => hF _ (h'.1 h1), L_mono hF fuel _ a' w' h'.2⟩) (h.2 i hi)⟩
/-- the walk: (i, 0) a call, a store ..; (i, 1) yields under F; (i, 2) yields in whatever world -/
def wpCan (P : Program) (ops : Array Oper) (Q : Exit → Act → World → Prop) (k : Nat) : List (Nat × Nat) → (World → Prop) → Act → World → Prop
  | [], _, a, w => Q .normal a w
  | (i, 0) :: rest, F, a, w => ∃ o, ops[i]? = some o ∧ ((Region.wanted o (yielded ops a.tmps) = false ∧ wpCan P ops Q k rest F (a.put o.dst undef) w) ∨
      wpOp P ops Q i (fun a w => ∃ F' : World → Prop, (∀ w, F' w → F w) ∧ (i = k ∨ F' w) ∧ wpCan P ops Q k rest F' a w) a w)
  | (i, 1) :: rest, F, a, w => ∃ o v, ops[i]? = some o ∧ YieldsIf P ops F o v a ∧ wpCan P ops Q k rest F (a.put o.dst v) w
  | (i, _ + 2) :: rest, F, a, w => ∃ o v, ops[i]? = some o ∧ Yields P ops o v a ∧ wpCan P ops Q k rest F (a.put o.dst v) w
def canB (ops : Array Oper) (k : Nat) : List (Nat × Nat) → Array Bool → Bool
  | [], listed => (Region.ready .any ops listed).isEmpty
  | (i, 0) :: rest, listed => (Region.ready .any ops listed == [i]) && canB ops k rest (listed.setIfInBounds i true) && (!listed.getD k false || rest.all fun x => x.2 == 2) && (i < listed.size)
  | (i, 1) :: rest, listed => (Region.ready .any ops listed).contains i && Region.free .any ops listed i && waits ops k i && !listed.getD k false && canB ops k rest (listed.setIfInBounds i true)
  | (i, _ + 2) :: rest, listed => (Region.ready .any ops listed).contains i && Region.free .any ops listed i && (i != k) && canB ops k rest (listed.setIfInBounds i true)

theorem wpAny_can (hs : Region.noSelect ops = true) (hQ : ∀ c (dst : Option Tmp) v a w, Q (.panic c) (a.put dst v) w → Q (.panic c) a w) :
    ∀ (ord : List (Nat × Nat)) (F : World → Prop) (listed : Array Bool) (a : Act) (w : World), St F k listed w → canB ops k ord listed = true → wpCan P ops Q k ord F a w → wpAnyL P ops Q F k ord.length listed a w
  | [], _, _, _, _, _, hB, h => ⟨by simpa [canB] using hB, h⟩
  | (i, 0) :: rest, F, listed, a, w, hw, hB, h => by
    simp only [canB, Bool.and_eq_true, beq_iff_eq, decide_eq_true_eq] at hB
    obtain ⟨⟨⟨hr, hB'⟩, _⟩, hsz⟩ := hB
    obtain ⟨o, ho, h⟩ := h
    refine ⟨fun h0 => (by rw [hr] at h0; cases h0), fun j hj => ?_⟩
    rw [hr, List.mem_singleton] at hj
    subst hj
    rcases h with ⟨hg, h⟩ | h
    · unfold wpOp
      simp only [ho, hg, Bool.false_eq_true, if_false]
      exact ⟨hw.mono _, wpAny_can hs hQ rest F _ _ _ (hw.mono _) hB' h⟩
    · refine wpOp_mono (fun a w h1 => ?_) h
      obtain ⟨F', hFF, h1, h2⟩ := h1
      have hS : St F' k (listed.setIfInBounds j true) w := fun h5 => by
        rcases h1 with rfl | hF
        · simp [hsz] at h5
        · exact hF
      exact ⟨fun h5 => hFF _ (hS h5), L_mono hFF _ _ _ _ (wpAny_can hs hQ rest F' _ a w hS hB' h2)⟩
  | (i, 1) :: rest, F, listed, a, w, hw, hB, h => by
    simp only [canB, Bool.and_eq_true, Bool.not_eq_true'] at hB
    obtain ⟨⟨⟨⟨hr, hf⟩, hk⟩, hkl⟩, hB'⟩ := hB
    obtain ⟨o, v, ho, hy, h⟩ := h
    exact first ho (Region.noSelect_spec hs) (fun c a w => hQ c o.dst v a w) hk rest.length listed a w (Region.free_spec ho hf) (by simpa using hr) hy hkl (hw hkl) (wpAny_can hs hQ rest F _ _ _ (hw.mono _) hB' h)
  | (i, _ + 2) :: rest, F, listed, a, w, hw, hB, h => by
    simp only [canB, Bool.and_eq_true, bne_iff_ne] at hB
    obtain ⟨⟨⟨hr, hf⟩, hik⟩, hB'⟩ := hB
    obtain ⟨o, v, ho, hy, h⟩ := h
    exact firstAll ho (Region.noSelect_spec hs) (fun c a w => hQ c o.dst v a w) hik rest.length listed a w (Region.free_spec ho hf) (by simpa using hr) hy hw (wpAny_can hs hQ rest F _ _ _ (hw.mono _) hB' h)

theorem region {id : Nat} {l : List Oper} {a : Act} {w : World} (F : World → Prop) (k : Nat) (ord : List (Nat × Nat)) (hm : P.follows .mixedOrders = true)
    (hB : (Region.noSelect l.toArray && (ord.length == l.length) && canB l.toArray k ord (Array.replicate l.length false)) = true) (hF : F w.drew)
    (h : wpCan P l.toArray (NoPanic Q) k ord F a w.drew) : (Code.region id l.toArray true).wp P Q a w := by
  simp only [Bool.and_eq_true, beq_iff_eq] at hB
  refine wp_region_noPanic (wp_region_any hm ?_)
  have := wpAny_of_L _ _ _ _ (wpAny_can (P := P) (Q := NoPanic Q) (k := k) hB.1.1 (fun c dst v a w h => h.elim) ord F (Array.replicate l.length false) a w.drew (fun _ => hF) hB.2 h)
  rw [hB.1.2] at this
  simpa using this

variable {i : Nat} {o : Oper} {a : Act} {w : World} {b : Nat} {rest : List (Nat × Nat)}
theorem held (hi : ops[i]? = some o) (hg : Region.wanted o (yielded ops a.tmps) = true) (hv : ∃ v, (∀ w', F w' → (execOp a.eval o).run P w' = .ok (.value v) w') ∧ ∀ K : Act → Prop, (∀ a, wpCan P ops Q k rest F a w → K a) → K (a.put o.dst v)) : wpCan P ops Q k ((i, 1) :: rest) F a w :=
  let ⟨v, hv, h⟩ := hv; ⟨o, v, hi, .inl ⟨hg, hv⟩, h _ fun _ h => h⟩
theorem pur (hi : ops[i]? = some o) (hg : Region.wanted o (yielded ops a.tmps) = true) (hv : ∃ v, (∀ w', (execOp a.eval o).run P w' = .ok (.value v) w') ∧ ∀ K : Act → Prop, (∀ a, wpCan P ops Q k rest F a w → K a) → K (a.put o.dst v)) : wpCan P ops Q k ((i, 2) :: rest) F a w :=
  let ⟨v, hv, h⟩ := hv; ⟨o, v, hi, .inl ⟨hg, hv⟩, h _ fun _ h => h⟩
theorem skip (hi : ops[i]? = some o) (hg : Region.wanted o (yielded ops a.tmps) = false) (h : ∀ K : Act → Prop, (∀ a, wpCan P ops Q k rest F a w → K a) → K (a.put o.dst undef)) : wpCan P ops Q k ((i, b) :: rest) F a w :=
  match b with
  | 0 => ⟨o, hi, .inl ⟨hg, h _ fun _ h => h⟩⟩
  | 1 => ⟨o, undef, hi, .inr ⟨hg, rfl⟩, h _ fun _ h => h⟩
  | _ + 2 => ⟨o, undef, hi, .inr ⟨hg, rfl⟩, h _ fun _ h => h⟩
theorem impF (hi : ops[i]? = some o) (h : ∀ K : Act → World → Prop, Go.RowKit.Hid (∀ (F' : World → Prop) a w, (∀ w, F' w → F w) → F' w → wpCan P ops Q k rest F' a w → K a w) → if Region.wanted o (yielded ops a.tmps) then o.wp P a w K Q else K (a.put o.dst undef) w) : wpCan P ops Q k ((i, 0) :: rest) F a w := by
  refine ⟨o, hi, .inr ?_⟩
  have := h (fun a w => ∃ F' : World → Prop, (∀ w, F' w → F w) ∧ (i = k ∨ F' w) ∧ wpCan P ops Q k rest F' a w) (Lib.hid fun F' _ _ hFF hS h => ⟨F', hFF, .inr hS, h⟩)
  unfold wpOp
  simp only [hi]
  split
  · rename_i hw; rw [if_pos hw] at this; exact .inl this
  · rename_i hw; rw [if_neg hw] at this; exact this
theorem imp (hi : ops[i]? = some o) (h : ∀ K : Act → World → Prop, Go.RowKit.Hid (∀ a w, F w → wpCan P ops Q k rest F a w → K a w) → if Region.wanted o (yielded ops a.tmps) then o.wp P a w K Q else K (a.put o.dst undef) w) : wpCan P ops Q k ((i, 0) :: rest) F a w :=
  impF hi fun K hK => h K (Lib.hid fun a w hF h => hK.out F a w (fun _ h => h) hF h)
/-- the operation k itself -/
theorem last (hi : ops[k]? = some o) (h : ∀ K : Act → World → Prop, Go.RowKit.Hid (∀ a w, wpCan P ops Q k rest F a w → K a w) → if Region.wanted o (yielded ops a.tmps) then o.wp P a w K Q else K (a.put o.dst undef) w) : wpCan P ops Q k ((k, 0) :: rest) F a w := by
  refine ⟨o, hi, .inr (wpOp_mono (fun a w h => ⟨F, fun _ h => h, .inl rfl, h⟩) (K := wpCan P ops Q k rest F) ?_)⟩
  have := h (wpCan P ops Q k rest F) (Lib.hid fun _ _ h => h)
  unfold wpOp
  simp only [hi]
  split
  · rename_i hw; rw [if_pos hw] at this; exact .inl this
  · rename_i hw; rw [if_neg hw] at this; exact this
theorem done (h : Q .normal a w) : wpCan P ops (NoPanic Q) k [] F a w := h
end
end CanM
end Go.Proofs.Ytcbkhbnemhkheaa

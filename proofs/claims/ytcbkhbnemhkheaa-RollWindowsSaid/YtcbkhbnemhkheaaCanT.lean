/- A region that draws its order, holds calls and loads, and makes several things in an open order: a tree of orders. F holds till the operation k comes up; behind a call F may be made stronger. -/
import Derived.Test.YtcbkhbnemhkheaaCanM
import Derived.Test.YtcbkhbnemhkheaaSbase
namespace Go.Proofs.Ytcbkhbnemhkheaa
namespace CanT
open CanM (St wpAny_of_L waits first firstAll L_mono)
open Go.RowKit Ba
set_option linter.unusedVariables false
inductive Ord where
  | nil : Ord
  | op : Nat → Nat → Ord → Ord
  | fork : Ord → Ord → Ord
def ofList : List (Nat × Nat) → Ord
  | [] => .nil
  | (i, b) :: l => .op i b (ofList l)
section
variable {P : Program} {ops : Array Oper} {Q : Exit → Act → World → Prop} {F : World → Prop} {k : Nat}
def heads : Ord → List Nat
  | .nil => []
  | .op i _ _ => [i]
  | .fork l r => heads l ++ heads r
def okLen : Ord → Nat → Bool
  | .nil, 0 => true
  | .nil, _ + 1 => false
  | .op _ _ r, n + 1 => okLen r n
  | .op _ _ _, 0 => false
  | .fork l r, n => okLen l n && okLen r n
def wpCan (P : Program) (ops : Array Oper) (Q : Exit → Act → World → Prop) (k : Nat) : Ord → (World → Prop) → Act → World → Prop
  | .nil, _, a, w => Q .normal a w
  | .op i 0 rest, F, a, w => ∃ o, ops[i]? = some o ∧ ((Region.wanted o (yielded ops a.tmps) = false ∧ wpCan P ops Q k rest F (a.put o.dst undef) w) ∨
      wpOp P ops Q i (fun a w => ∃ F' : World → Prop, (∀ w, F' w → F w) ∧ (i = k ∨ F' w) ∧ wpCan P ops Q k rest F' a w) a w)
  | .op i 1 rest, F, a, w => ∃ o v, ops[i]? = some o ∧ YieldsIf P ops F o v a ∧ wpCan P ops Q k rest F (a.put o.dst v) w
  | .op i (_ + 2) rest, F, a, w => ∃ o v, ops[i]? = some o ∧ Yields P ops o v a ∧ wpCan P ops Q k rest F (a.put o.dst v) w
  | .fork l r, F, a, w => wpCan P ops Q k l F a w ∧ wpCan P ops Q k r F a w
def canB (ops : Array Oper) (k : Nat) : Ord → Bool → Array Bool → Bool
  | .nil, inF, listed => !inF && (Region.ready .any ops listed).isEmpty
  | .op i 0 rest, inF, listed => (inF || Region.ready .any ops listed == [i]) && canB ops k rest false (listed.setIfInBounds i true) && (i < listed.size)
  | .op i 1 rest, inF, listed => !inF && ((Region.ready .any ops listed).contains i && Region.free .any ops listed i && waits ops k i && !listed.getD k false && canB ops k rest false (listed.setIfInBounds i true))
  | .op i (_ + 2) rest, inF, listed => !inF && ((Region.ready .any ops listed).contains i && Region.free .any ops listed i && (i != k) && canB ops k rest false (listed.setIfInBounds i true))
  | .fork l r, inF, listed => (inF || Region.ready .any ops listed == heads l ++ heads r) && canB ops k l true listed && canB ops k r true listed
theorem heads_ne : ∀ (t : Ord) (listed : Array Bool), canB ops k t true listed = true → heads t ≠ []
  | .nil, _, h => by simp [canB] at h
  | .op i _ _, _, _ => by simp [heads]
  | .fork l r, listed, h => by
    simp only [canB, Bool.true_or, Bool.true_and, Bool.and_eq_true] at h
    have := heads_ne l listed h.1
    simp only [heads]
    intro h2
    exact this (List.append_eq_nil_iff.1 h2).1
theorem wpAny_can (hs : Region.noSelect ops = true) (hQ : ∀ c (dst : Option Tmp) v a w, Q (.panic c) (a.put dst v) w → Q (.panic c) a w) :
    ∀ (t : Ord) (F : World → Prop) (n : Nat) (listed : Array Bool) (a : Act) (w : World), St F k listed w → okLen t n = true → wpCan P ops Q k t F a w →
      (canB ops k t false listed = true → CanM.wpAnyL P ops Q F k n listed a w) ∧
      (canB ops k t true listed = true → ∃ m, n = m + 1 ∧ ∀ j ∈ heads t, wpOp P ops Q j (fun a' w' => St F k (listed.setIfInBounds j true) w' ∧ CanM.wpAnyL P ops Q F k m (listed.setIfInBounds j true) a' w') a w)
  | .nil, F, 0, listed, a, w, hw, hl, h => ⟨fun hB => ⟨by simpa [canB] using hB, h⟩, fun hB => by simp [canB] at hB⟩
  | .nil, F, n + 1, listed, a, w, hw, hl, h => by simp [okLen] at hl
  | .op i b rest, F, 0, listed, a, w, hw, hl, h => by simp [okLen] at hl
  | .op i 0 rest, F, n + 1, listed, a, w, hw, hl, h => by
    obtain ⟨o, ho, h⟩ := h
    have key : canB ops k rest false (listed.setIfInBounds i true) = true → i < listed.size → wpOp P ops Q i (fun a' w' => St F k (listed.setIfInBounds i true) w' ∧ CanM.wpAnyL P ops Q F k n (listed.setIfInBounds i true) a' w') a w := by
      intro hB' hsz
      rcases h with ⟨hg, h⟩ | h
      · unfold wpOp
        simp only [ho, hg, Bool.false_eq_true, if_false]
        exact ⟨hw.mono _, (wpAny_can hs hQ rest F n _ _ _ (hw.mono _) hl h).1 hB'⟩
      · refine wpOp_mono (fun a w h1 => ?_) h
        obtain ⟨F', hFF, h1, h2⟩ := h1
        have hS : St F' k (listed.setIfInBounds i true) w := fun h5 => by
          rcases h1 with rfl | hF
          · simp [hsz] at h5
          · exact hF
        exact ⟨fun h5 => hFF _ (hS h5), L_mono hFF _ _ _ _ ((wpAny_can hs hQ rest F' n _ a w hS hl h2).1 hB')⟩
    refine ⟨fun hB => ?_, fun hB => ⟨n, rfl, fun j hj => ?_⟩⟩
    · simp only [canB, Bool.false_or, Bool.and_eq_true, beq_iff_eq, decide_eq_true_eq] at hB
      obtain ⟨⟨hr, hB'⟩, hsz⟩ := hB
      refine ⟨fun h0 => (by rw [hr] at h0; cases h0), fun j hj => ?_⟩
      rw [hr, List.mem_singleton] at hj
      subst hj
      exact key hB' hsz
    · simp only [canB, Bool.true_or, Bool.true_and, Bool.and_eq_true, decide_eq_true_eq] at hB
      simp only [heads, List.mem_singleton] at hj
      subst hj
      exact key hB.1 hB.2
  | .op i 1 rest, F, n + 1, listed, a, w, hw, hl, h => by
    refine ⟨fun hB => ?_, fun hB => by simp [canB] at hB⟩
    simp only [canB, Bool.not_false, Bool.true_and, Bool.and_eq_true, Bool.not_eq_true'] at hB
    obtain ⟨⟨⟨⟨hr, hf⟩, hk⟩, hkl⟩, hB'⟩ := hB
    obtain ⟨o, v, ho, hy, h⟩ := h
    exact first ho (Region.noSelect_spec hs) (fun c a w => hQ c o.dst v a w) hk n listed a w (Region.free_spec ho hf) (by simpa using hr) hy hkl (hw hkl) ((wpAny_can hs hQ rest F n _ _ _ (hw.mono _) hl h).1 hB')
  | .op i (_ + 2) rest, F, n + 1, listed, a, w, hw, hl, h => by
    refine ⟨fun hB => ?_, fun hB => by simp [canB] at hB⟩
    simp only [canB, Bool.not_false, Bool.true_and, Bool.and_eq_true, bne_iff_ne] at hB
    obtain ⟨⟨⟨hr, hf⟩, hik⟩, hB'⟩ := hB
    obtain ⟨o, v, ho, hy, h⟩ := h
    exact firstAll ho (Region.noSelect_spec hs) (fun c a w => hQ c o.dst v a w) hik n listed a w (Region.free_spec ho hf) (by simpa using hr) hy hw ((wpAny_can hs hQ rest F n _ _ _ (hw.mono _) hl h).1 hB')
  | .fork l r, F, n, listed, a, w, hw, hl, h => by
    simp only [okLen, Bool.and_eq_true] at hl
    have key : canB ops k l true listed = true → canB ops k r true listed = true → ∃ m, n = m + 1 ∧ ∀ j ∈ heads l ++ heads r, wpOp P ops Q j (fun a' w' => St F k (listed.setIfInBounds j true) w' ∧ CanM.wpAnyL P ops Q F k m (listed.setIfInBounds j true) a' w') a w := by
      intro h1 h2
      obtain ⟨m, hm, g1⟩ := (wpAny_can hs hQ l F n listed a w hw hl.1 h.1).2 h1
      obtain ⟨m', hm', g2⟩ := (wpAny_can hs hQ r F n listed a w hw hl.2 h.2).2 h2
      have : m' = m := by omega
      subst this
      refine ⟨m', hm, fun j hj => ?_⟩
      rcases List.mem_append.1 hj with h | h
      · exact g1 j h
      · exact g2 j h
    refine ⟨fun hB => ?_, fun hB => ?_⟩
    · simp only [canB, Bool.false_or, Bool.and_eq_true, beq_iff_eq] at hB
      obtain ⟨m, rfl, hk⟩ := key hB.1.2 hB.2
      have hne := heads_ne l listed hB.1.2
      refine ⟨fun h0 => ?_, fun j hj => hk j (by rw [← hB.1.1]; exact hj)⟩
      rw [hB.1.1] at h0
      exact absurd (List.append_eq_nil_iff.1 h0).1 hne
    · simp only [canB, Bool.true_or, Bool.true_and, Bool.and_eq_true] at hB
      exact key hB.1 hB.2

theorem region {id : Nat} {l : List Oper} {a : Act} {w : World} (F : World → Prop) (k : Nat) (ord : Ord) (hm : P.follows .mixedOrders = true)
    (hB : (Region.noSelect l.toArray && okLen ord l.length && canB l.toArray k ord false (Array.replicate l.length false)) = true) (hF : F w.drew)
    (h : wpCan P l.toArray (NoPanic Q) k ord F a w.drew) : (Code.region id l.toArray true).wp P Q a w := by
  simp only [Bool.and_eq_true] at hB
  refine wp_region_noPanic (wp_region_any hm ?_)
  have := wpAny_of_L _ _ _ _ ((wpAny_can (P := P) (Q := NoPanic Q) (k := k) hB.1.1 (fun c dst v a w h => h.elim) ord F l.length (Array.replicate l.length false) a w.drew (fun _ => hF) hB.1.2 h).1 hB.2)
  simpa using this

variable {i : Nat} {o : Oper} {a : Act} {w : World} {b : Nat} {rest : Ord}
theorem held (hi : ops[i]? = some o) (hg : Region.wanted o (yielded ops a.tmps) = true) (hv : ∃ v, (∀ w', F w' → (execOp a.eval o).run P w' = .ok (.value v) w') ∧ ∀ K : Act → Prop, (∀ a, wpCan P ops Q k rest F a w → K a) → K (a.put o.dst v)) : wpCan P ops Q k (.op i 1 rest) F a w :=
  let ⟨v, hv, h⟩ := hv; ⟨o, v, hi, .inl ⟨hg, hv⟩, h _ fun _ h => h⟩
theorem pur (hi : ops[i]? = some o) (hg : Region.wanted o (yielded ops a.tmps) = true) (hv : ∃ v, (∀ w', (execOp a.eval o).run P w' = .ok (.value v) w') ∧ ∀ K : Act → Prop, (∀ a, wpCan P ops Q k rest F a w → K a) → K (a.put o.dst v)) : wpCan P ops Q k (.op i 2 rest) F a w :=
  let ⟨v, hv, h⟩ := hv; ⟨o, v, hi, .inl ⟨hg, hv⟩, h _ fun _ h => h⟩
theorem skip (hi : ops[i]? = some o) (hg : Region.wanted o (yielded ops a.tmps) = false) (h : ∀ K : Act → Prop, (∀ a, wpCan P ops Q k rest F a w → K a) → K (a.put o.dst undef)) : wpCan P ops Q k (.op i b rest) F a w :=
  match b with
  | 0 => ⟨o, hi, .inl ⟨hg, h _ fun _ h => h⟩⟩
  | 1 => ⟨o, undef, hi, .inr ⟨hg, rfl⟩, h _ fun _ h => h⟩
  | _ + 2 => ⟨o, undef, hi, .inr ⟨hg, rfl⟩, h _ fun _ h => h⟩
theorem impF (hi : ops[i]? = some o) (h : ∀ K : Act → World → Prop, Go.RowKit.Hid (∀ (F' : World → Prop) a w, (∀ w, F' w → F w) → F' w → wpCan P ops Q k rest F' a w → K a w) → if Region.wanted o (yielded ops a.tmps) then o.wp P a w K Q else K (a.put o.dst undef) w) : wpCan P ops Q k (.op i 0 rest) F a w := by
  refine ⟨o, hi, .inr ?_⟩
  have := h (fun a w => ∃ F' : World → Prop, (∀ w, F' w → F w) ∧ (i = k ∨ F' w) ∧ wpCan P ops Q k rest F' a w) (Lib.hid fun F' _ _ hFF hS h => ⟨F', hFF, .inr hS, h⟩)
  unfold wpOp
  simp only [hi]
  split
  · rename_i hw; rw [if_pos hw] at this; exact .inl this
  · rename_i hw; rw [if_neg hw] at this; exact this
theorem imp (hi : ops[i]? = some o) (h : ∀ K : Act → World → Prop, Go.RowKit.Hid (∀ a w, F w → wpCan P ops Q k rest F a w → K a w) → if Region.wanted o (yielded ops a.tmps) then o.wp P a w K Q else K (a.put o.dst undef) w) : wpCan P ops Q k (.op i 0 rest) F a w :=
  impF hi fun K hK => h K (Lib.hid fun a w hF h => hK.out F a w (fun _ h => h) hF h)
theorem last (hi : ops[k]? = some o) (h : ∀ K : Act → World → Prop, Go.RowKit.Hid (∀ a w, wpCan P ops Q k rest F a w → K a w) → if Region.wanted o (yielded ops a.tmps) then o.wp P a w K Q else K (a.put o.dst undef) w) : wpCan P ops Q k (.op k 0 rest) F a w := by
  refine ⟨o, hi, .inr (wpOp_mono (fun a w h => ⟨F, fun _ h => h, .inl rfl, h⟩) (K := wpCan P ops Q k rest F) ?_)⟩
  have := h (wpCan P ops Q k rest F) (Lib.hid fun _ _ h => h)
  unfold wpOp
  simp only [hi]
  split
  · rename_i hw; rw [if_pos hw] at this; exact .inl this
  · rename_i hw; rw [if_neg hw] at this; exact this
theorem both {l r : Ord} (h1 : wpCan P ops Q k l F a w) (h2 : wpCan P ops Q k r F a w) : wpCan P ops Q k (.fork l r) F a w := ⟨h1, h2⟩
theorem done (h : Q .normal a w) : wpCan P ops (NoPanic Q) k .nil F a w := h
/-- a row of values out of the midst of a block -/
theorem heldR (hi : ops[i]? = some o) (hg : Region.wanted o (yielded ops a.tmps) = true)
    (ty : TypeId) (x : Operand) (ho : o.op = .load ty x) (g p : Nat) (cs : List Value) (hx : a.eval x = .pointer (some ⟨g, p, none⟩)) (hF : ∀ w', F w' → w'.rangeAt g p cs) (d : TypeDesc) (hu : P.underlying ty = some d) (hd : d.isRow = true)
    (hs : (P.info? ty).map (·.size) = some cs.length) (h : ∀ K : Act → Prop, (∀ a, wpCan P ops Q k rest F a w → K a) → K (a.put o.dst (.agg cs.toArray))) : wpCan P ops Q k (.op i 1 rest) F a w := by
  refine held hi hg ⟨.agg cs.toArray, fun w' hF' => ?_, h⟩
  unfold execOp
  simp only [ho, hx, Instr.loadAt, Instr.sureAddr, Sem.run_bind, Sem.run_pure, Result.andThen_ok, run_loadVar_mid w' g p ty cs d (hF w' hF') hu hd hs]
end
end CanT
end Go.Proofs.Ytcbkhbnemhkheaa

/- A region that draws its order and holds calls: one walk serves every order, where the calls have one order and all else looks at no memory and is taken as early as it may be. -/
import Derived.Test.YtldhplanpnddbaaBase2
import Derived.Deep.RegionHeld3
import Derived.Orders
namespace Go.Proofs.Ytldhplanpnddbaa
namespace Can
set_option linter.unusedVariables false
section
variable {P : Program} {ops : Array Oper} {Q : Exit → Act → World → Prop}

/-- the walk: (i, true) an operation that yields the same in whatever world, (i, false) any other -/
def wpCan (P : Program) (ops : Array Oper) (Q : Exit → Act → World → Prop) : List (Nat × Bool) → Act → World → Prop
  | [], a, w => Q .normal a w
  | (i, true) :: rest, a, w => ∃ o v a1, ops[i]? = some o ∧ Yields P ops o v a ∧ a.put o.dst v = a1 ∧ wpCan P ops Q rest a1 w
  | (i, false) :: rest, a, w => wpOp P ops Q i (wpCan P ops Q rest) a w
/-- the order fits the region -/
def canB (ops : Array Oper) : List (Nat × Bool) → Array Bool → Bool
  | [], listed => (Region.ready .any ops listed).isEmpty
  | (i, true) :: rest, listed => (Region.ready .any ops listed).contains i && Region.free .any ops listed i && canB ops rest (listed.setIfInBounds i true)
  | (i, false) :: rest, listed => (Region.ready .any ops listed == [i]) && canB ops rest (listed.setIfInBounds i true)

theorem wpAny_can (hs : Region.noSelect ops = true) (hQ : ∀ c (dst : Option Tmp) v a w, Q (.panic c) (a.put dst v) w → Q (.panic c) a w) :
    ∀ (ord : List (Nat × Bool)) (listed : Array Bool) (a : Act) (w : World), canB ops ord listed = true → wpCan P ops Q ord a w → wpAny P .any ops Q ord.length listed a w
  | [], _, _, _, hB, h => ⟨by simpa [canB] using hB, h⟩
  | (i, true) :: rest, listed, a, w, hB, h => by
    simp only [canB, Bool.and_eq_true] at hB
    obtain ⟨⟨hr, hf⟩, hB'⟩ := hB
    obtain ⟨o, v, a1, ho, hy, rfl, h⟩ := h
    exact wpAny_first ho (Region.noSelect_spec hs) (fun c a w => hQ c o.dst v a w) rest.length listed a w (Region.free_spec ho hf) (by simpa using hr) hy (wpAny_can hs hQ rest _ _ _ hB' h)
  | (i, false) :: rest, listed, a, w, hB, h => by
    simp only [canB, Bool.and_eq_true, beq_iff_eq] at hB
    obtain ⟨hr, hB'⟩ := hB
    refine ⟨fun h0 => (by rw [hr] at h0; cases h0), fun j hj => ?_⟩
    rw [hr, List.mem_singleton] at hj
    subst hj
    exact wpOp_mono (fun a w h1 => wpAny_can hs hQ rest _ a w hB' h1) h

theorem region {id : Nat} {l : List Oper} {a : Act} {w : World} (ord : List (Nat × Bool)) (hm : P.follows .mixedOrders = true)
    (hB : (Region.noSelect l.toArray && (ord.length == l.length) && canB l.toArray ord (Array.replicate l.length false)) = true)
    (h : wpCan P l.toArray (NoPanic Q) ord a w.drew) : (Code.region id l.toArray true).wp P Q a w := by
  simp only [Bool.and_eq_true, beq_iff_eq] at hB
  refine wp_region_noPanic (wp_region_any hm ?_)
  have := wpAny_can (P := P) (Q := NoPanic Q) hB.1.1 (fun c dst v a w h => h.elim) ord (Array.replicate l.length false) a w.drew hB.2 h
  rw [hB.1.2] at this
  simpa using this

variable {i : Nat} {o : Oper} {v : Value} {a a1 : Act} {w : World} {rest : List (Nat × Bool)}
theorem pur (hi : ops[i]? = some o) (hg : Region.wanted o (yielded ops a.tmps) = true) (hv : ∃ v, (∀ w', (execOp a.eval o).run P w' = .ok (.value v) w') ∧ ∀ K : Act → Prop, (∀ a, wpCan P ops Q rest a w → K a) → K (a.put o.dst v)) : wpCan P ops Q ((i, true) :: rest) a w :=
  let ⟨v, hv, h⟩ := hv; ⟨o, v, _, hi, .inl ⟨hg, hv⟩, rfl, h _ fun _ h => h⟩
theorem skip (hi : ops[i]? = some o) (hg : Region.wanted o (yielded ops a.tmps) = false) (h : ∀ K : Act → Prop, (∀ a, wpCan P ops Q rest a w → K a) → K (a.put o.dst undef)) : wpCan P ops Q ((i, true) :: rest) a w :=
  ⟨o, undef, _, hi, .inr ⟨hg, rfl⟩, rfl, h _ fun _ h => h⟩
theorem imp (hi : ops[i]? = some o) (h : ∀ K : Act → World → Prop, (∀ a w, wpCan P ops Q rest a w → K a w) → if Region.wanted o (yielded ops a.tmps) then o.wp P a w K Q else K (a.put o.dst undef) w) : wpCan P ops Q ((i, false) :: rest) a w := by
  have := h _ (fun _ _ h => h)
  unfold wpCan wpOp
  simp only [hi]
  split
  · rename_i hw; rw [if_pos hw] at this; exact .inl this
  · rename_i hw; rw [if_neg hw] at this; exact this
theorem done (h : Q .normal a w) : wpCan P ops (NoPanic Q) [] a w := h
/-- the order to be laid: what is free and looks at no memory first -/
def isPure (o : Oper) : Bool := match o.op with
  | .move .. | .assign .. | .pick .. | .nilCheck .. | .binOp .. | .unOp .. | .convert .. | .fieldAddr .. | .field .. | .indexAddr .. | .extract .. | .slice .. | .build .. | .makeInterface .. => true
  | .call { callee := .builtin .len, .. } | .call { callee := .builtin .cap, .. } => true
  | _ => false
def order (ops : Array Oper) : Nat → Array Bool → List (Nat × Bool)
  | 0, _ => []
  | n + 1, listed =>
    let r := Region.ready .any ops listed
    match r.find? fun i => (match ops[i]? with | some o => isPure o | none => false) && Region.free .any ops listed i with
    | some i => (i, true) :: order ops n (listed.setIfInBounds i true)
    | none => match r with
      | i :: _ => (i, false) :: order ops n (listed.setIfInBounds i true)
      | [] => []
end
end Can
end Go.Proofs.Ytldhplanpnddbaa

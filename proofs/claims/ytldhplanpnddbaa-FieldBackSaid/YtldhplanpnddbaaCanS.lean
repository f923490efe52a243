/- A region that draws its order and holds calls and loads: one walk serves every order, where the calls have one order and all else yields the same in every world that meets S. -/
import Derived.Test.YtldhplanpnddbaaBase2
import Derived.Deep.RegionHeld3
import Derived.Below
namespace Go.Proofs.Ytldhplanpnddbaa
namespace CanS
set_option linter.unusedVariables false
section
variable {P : Program} {ops : Array Oper} {Q : Exit → Act → World → Prop} {S : World → Prop}

def wpCan (P : Program) (ops : Array Oper) (Q : Exit → Act → World → Prop) (S : World → Prop) : List (Nat × Bool) → Act → World → Prop
  | [], a, w => Q .normal a w
  | (i, b) :: rest, a, w => ∃ o, ops[i]? = some o ∧
      ((Region.wanted o (yielded ops a.tmps) = false ∧ wpCan P ops Q S rest (a.put o.dst undef) w) ∨
       (b = true ∧ ∃ v, YieldsIf P ops S o v a ∧ wpCan P ops Q S rest (a.put o.dst v) w) ∨
       (b = false ∧ wpOp P ops Q i (fun a w => S w ∧ wpCan P ops Q S rest a w) a w))
def canB (ops : Array Oper) : List (Nat × Bool) → Array Bool → Bool
  | [], listed => (Region.ready .any ops listed).isEmpty
  | (i, true) :: rest, listed => (Region.ready .any ops listed).contains i && Region.free .any ops listed i && canB ops rest (listed.setIfInBounds i true)
  | (i, false) :: rest, listed => (Region.ready .any ops listed == [i]) && canB ops rest (listed.setIfInBounds i true)

theorem wpAny_can (hs : Region.noSelect ops = true) (hQ : ∀ c (dst : Option Tmp) v a w, Q (.panic c) (a.put dst v) w → Q (.panic c) a w) :
    ∀ (ord : List (Nat × Bool)) (listed : Array Bool) (a : Act) (w : World), S w → canB ops ord listed = true → wpCan P ops Q S ord a w → wpAnyH P .any ops Q S ord.length listed a w
  | [], _, _, _, _, hB, h => ⟨by simpa [canB] using hB, h⟩
  | (i, true) :: rest, listed, a, w, hw, hB, h => by
    simp only [canB, Bool.and_eq_true] at hB
    obtain ⟨⟨hr, hf⟩, hB'⟩ := hB
    obtain ⟨o, ho, h⟩ := h
    rcases h with ⟨hg, h⟩ | ⟨_, v, hy, h⟩ | ⟨h, _⟩
    · exact wpAnyH_take ho hs hf hr (fun c a w => hQ c o.dst undef a w) (.inr ⟨hg, rfl⟩) hw (wpAny_can hs hQ rest _ _ _ hw hB' h)
    · exact wpAnyH_take ho hs hf hr (fun c a w => hQ c o.dst v a w) hy hw (wpAny_can hs hQ rest _ _ _ hw hB' h)
    · cases h
  | (i, false) :: rest, listed, a, w, hw, hB, h => by
    simp only [canB, Bool.and_eq_true, beq_iff_eq] at hB
    obtain ⟨hr, hB'⟩ := hB
    obtain ⟨o, ho, h⟩ := h
    refine wpAnyH_all hr (by simp) fun j hj => ?_
    rw [List.mem_singleton] at hj
    subst hj
    rcases h with ⟨hg, h⟩ | ⟨h, _⟩ | ⟨_, h⟩
    · unfold wpOp
      simp only [ho, hg, Bool.false_eq_true, if_false]
      exact ⟨hw, wpAny_can hs hQ rest _ _ _ hw hB' h⟩
    · cases h
    · exact wpOp_mono (fun a w h1 => ⟨h1.1, wpAny_can hs hQ rest _ a w h1.1 hB' h1.2⟩) h

theorem region {id : Nat} {l : List Oper} {a : Act} {w : World} (S : World → Prop) (ord : List (Nat × Bool)) (hm : P.follows .mixedOrders = true)
    (hB : (Region.noSelect l.toArray && (ord.length == l.length) && canB l.toArray ord (Array.replicate l.length false)) = true) (hS : S w.drew)
    (h : wpCan P l.toArray (NoPanic Q) S ord a w.drew) : (Code.region id l.toArray true).wp P Q a w := by
  simp only [Bool.and_eq_true, beq_iff_eq] at hB
  refine wp_region_noPanic (wp_region_held (S := S) hm ?_)
  have := wpAny_can (P := P) (Q := NoPanic Q) (S := S) hB.1.1 (fun c dst v a w h => h.elim) ord (Array.replicate l.length false) a w.drew hS hB.2 h
  rw [hB.1.2] at this
  simpa using this

variable {i : Nat} {o : Oper} {a : Act} {w : World} {b : Bool} {rest : List (Nat × Bool)}
theorem pur (hi : ops[i]? = some o) (hg : Region.wanted o (yielded ops a.tmps) = true) (hv : ∃ v, (∀ w', S w' → (execOp a.eval o).run P w' = .ok (.value v) w') ∧ ∀ K : Act → Prop, (∀ a, wpCan P ops Q S rest a w → K a) → K (a.put o.dst v)) : wpCan P ops Q S ((i, true) :: rest) a w :=
  let ⟨v, hv, h⟩ := hv; ⟨o, hi, .inr (.inl ⟨rfl, v, .inl ⟨hg, hv⟩, h _ fun _ h => h⟩)⟩
theorem skip (hi : ops[i]? = some o) (hg : Region.wanted o (yielded ops a.tmps) = false) (h : ∀ K : Act → Prop, (∀ a, wpCan P ops Q S rest a w → K a) → K (a.put o.dst undef)) : wpCan P ops Q S ((i, b) :: rest) a w :=
  ⟨o, hi, .inl ⟨hg, h _ fun _ h => h⟩⟩
theorem imp (hi : ops[i]? = some o) (h : ∀ K : Act → World → Prop, Go.RowKit.Hid (∀ a w, S w → wpCan P ops Q S rest a w → K a w) → if Region.wanted o (yielded ops a.tmps) then o.wp P a w K Q else K (a.put o.dst undef) w) : wpCan P ops Q S ((i, false) :: rest) a w := by
  refine ⟨o, hi, .inr (.inr ⟨rfl, ?_⟩)⟩
  have := h (fun a w => S w ∧ wpCan P ops Q S rest a w) (Lib.hid fun _ _ hS h => ⟨hS, h⟩)
  unfold wpOp
  simp only [hi]
  split
  · rename_i hw; rw [if_pos hw] at this; exact .inl this
  · rename_i hw; rw [if_neg hw] at this; exact this
theorem done (h : Q .normal a w) : wpCan P ops (NoPanic Q) S [] a w := h
end
end CanS
end Go.Proofs.Ytldhplanpnddbaa

/- A region that draws its order, where all that it reads lies in blocks that were there at its start: F is 'Below' of the world at its start. -/
import Derived.Test.YtcbkhbnemhkheaaCanT
namespace Go.Proofs.Ytcbkhbnemhkheaa
namespace CanB
open CanT Go.RowKit Ba Sm
set_option linter.unusedVariables false
section
variable {P : Program} {ops : Array Oper} {Q : Exit → Act → World → Prop} {k : Nat}
theorem region {id : Nat} {l : List Oper} {a : Act} {w : World} (k : Nat) (ord : Ord) (hm : P.follows .mixedOrders = true)
    (hB : (Region.noSelect l.toArray && okLen ord l.length && canB l.toArray k ord false (Array.replicate l.length false)) = true)
    (h : wpCan P l.toArray (NoPanic Q) k ord (Below w.drew.heap.size w.drew) a w.drew) : (Code.region id l.toArray true).wp P Q a w :=
  CanT.region (Below w.drew.heap.size w.drew) k ord hm hB (Below.refl _ _) h
variable {i : Nat} {o : Oper} {a : Act} {w W : World} {b : Nat} {rest : Ord} {B : Nat}
/-- a row of values is read -/
theorem row (hi : ops[i]? = some o) (hg : Region.wanted o (yielded ops a.tmps) = true)
    (ty : TypeId) (x : Operand) (ho : o.op = .load ty x) (g p : Nat) (cs : List Value) (hx : a.eval x = .pointer (some ⟨g, p, none⟩)) (hR : W.rangeAt g p cs) (hgB : g < B) (d : TypeDesc) (hu : P.underlying ty = some d) (hd : d.isRow = true)
    (hs : (P.info? ty).map (·.size) = some cs.length) (h : ∀ K : Act → Prop, (∀ a, wpCan P ops Q k rest (Below B W) a w → K a) → K (a.put o.dst (.agg cs.toArray))) : wpCan P ops Q k (.op i 1 rest) (Below B W) a w :=
  CanT.heldR hi hg ty x ho g p cs hx (fun w' hF j v hv => (Below.cell (p := ⟨g, p + j, none⟩) hF hgB).trans (hR j v hv)) d hu hd hs h
/-- bytes are read as a text -/
theorem str (hi : ops[i]? = some o) (hg : Region.wanted o (yielded ops a.tmps) = true)
    (src dst e : TypeId) (x : Operand) (ho : o.op = .convert src dst x) (hs : P.underlying src = some (.slice e)) (he : P.underlying e = some (.int .u8)) (hd : P.underlying dst = some .string) (A : Option Addr) (n c : Nat) (l : List UInt8)
    (hx : a.eval x = .slice A n c) (hn : n = l.length) (hR : ReadB W B A l) (h : ∀ K : Act → Prop, (∀ a, wpCan P ops Q k rest (Below B W) a w → K a) → K (a.put o.dst (.string (S l)))) : wpCan P ops Q k (.op i 1 rest) (Below B W) a w := by
  subst hn
  refine CanT.held hi hg ⟨.string (S l), fun w' hF' => ?_, h⟩
  unfold execOp
  simp only [ho, hx, Sem.run_bind, run_strof w' src e hs he A c B l (hR.below hF') dst hd]
  rfl
/-- one cell is read -/
theorem cell (hi : ops[i]? = some o) (hg : Region.wanted o (yielded ops a.tmps) = true) (u v : Value) (p : Addr) (hc : W.cell? p = some u) (hp : p.block < B)
    (hl : ∀ w', w'.cell? p = some u → (execOp a.eval o).run P w' = .ok (.value v) w')
    (h : ∀ K : Act → Prop, (∀ a, wpCan P ops Q k rest (Below B W) a w → K a) → K (a.put o.dst v)) : wpCan P ops Q k (.op i 1 rest) (Below B W) a w :=
  CanT.held hi hg ⟨v, fun w' hF => hl w' ((Below.cell hF hp).trans hc), h⟩
end
end CanB
end Go.Proofs.Ytcbkhbnemhkheaa

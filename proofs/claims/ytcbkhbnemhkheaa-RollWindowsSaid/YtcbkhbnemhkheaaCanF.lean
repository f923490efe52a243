/- A region that draws its order: what holds of every world in between (F) says that the old blocks are as they were. -/
import Derived.Test.YtcbkhbnemhkheaaCanB
namespace Go.Proofs.Ytcbkhbnemhkheaa
namespace CanF
open CanT Go.RowKit Ba Sm
set_option linter.unusedVariables false
section
variable {P : Program} {ops : Array Oper} {Q : Exit → Act → World → Prop} {k : Nat} {F : World → Prop}
theorem region {id : Nat} {l : List Oper} {a : Act} {w : World} (k : Nat) (ord : Ord) (hm : P.follows .mixedOrders = true)
    (hB : (Region.noSelect l.toArray && okLen ord l.length && canB l.toArray k ord false (Array.replicate l.length false)) = true)
    (h : wpCan P l.toArray (NoPanic Q) k ord (fun w' => w.drew.grownBy w' none) a w.drew) : (Code.region id l.toArray true).wp P Q a w :=
  CanT.region (fun w' => w.drew.grownBy w' none) k ord hm hB (World.grownBy.refl _ _) h
variable {i : Nat} {o : Oper} {a : Act} {w W : World} {b : Nat} {rest : Ord} {B : Nat}
theorem row (hi : ops[i]? = some o) (hg : Region.wanted o (yielded ops a.tmps) = true)
    (ty : TypeId) (x : Operand) (ho : o.op = .load ty x) (g p : Nat) (cs : List Value) (hx : a.eval x = .pointer (some ⟨g, p, none⟩)) (hF : ∀ w', F w' → Below B W w') (hR : W.rangeAt g p cs) (hgB : g < B) (d : TypeDesc) (hu : P.underlying ty = some d) (hd : d.isRow = true)
    (hs : (P.info? ty).map (·.size) = some cs.length) (h : ∀ K : Act → Prop, (∀ a, wpCan P ops Q k rest F a w → K a) → K (a.put o.dst (.agg cs.toArray))) : wpCan P ops Q k (.op i 1 rest) F a w :=
  CanT.heldR hi hg ty x ho g p cs hx (fun w' h j v hv => (Below.cell (p := ⟨g, p + j, none⟩) (hF w' h) hgB).trans (hR j v hv)) d hu hd hs h
theorem strF (hi : ops[i]? = some o) (hg : Region.wanted o (yielded ops a.tmps) = true)
    (src dst e : TypeId) (x : Operand) (ho : o.op = .convert src dst x) (hs : P.underlying src = some (.slice e)) (he : P.underlying e = some (.int .u8)) (hd : P.underlying dst = some .string) (A : Option Addr) (n c : Nat) (l : List UInt8)
    (hx : a.eval x = .slice A n c) (hn : n = l.length) (hF : ∀ w', F w' → ∃ B, ReadB w' B A l) (h : ∀ K : Act → Prop, (∀ a, wpCan P ops Q k rest F a w → K a) → K (a.put o.dst (.string (S l)))) : wpCan P ops Q k (.op i 1 rest) F a w := by
  subst hn
  refine CanT.held hi hg ⟨.string (S l), fun w' hF' => ?_, h⟩
  obtain ⟨B, hR⟩ := hF w' hF'
  unfold execOp
  simp only [ho, hx, Sem.run_bind, run_strof w' src e hs he A c B l hR dst hd]
  rfl
theorem str (hi : ops[i]? = some o) (hg : Region.wanted o (yielded ops a.tmps) = true)
    (src dst e : TypeId) (x : Operand) (ho : o.op = .convert src dst x) (hs : P.underlying src = some (.slice e)) (he : P.underlying e = some (.int .u8)) (hd : P.underlying dst = some .string) (A : Option Addr) (n c : Nat) (l : List UInt8)
    (hx : a.eval x = .slice A n c) (hn : n = l.length) (hF : ∀ w', F w' → Below B W w') (hR : ReadB W B A l) (h : ∀ K : Act → Prop, (∀ a, wpCan P ops Q k rest F a w → K a) → K (a.put o.dst (.string (S l)))) : wpCan P ops Q k (.op i 1 rest) F a w :=
  strF hi hg src dst e x ho hs he hd A n c l hx hn (fun w' h => ⟨B, hR.below (hF w' h)⟩) h
theorem cell (hi : ops[i]? = some o) (hg : Region.wanted o (yielded ops a.tmps) = true) (u v : Value) (p : Addr) (hF : ∀ w', F w' → Below B W w') (hc : W.cell? p = some u) (hp : p.block < B)
    (hl : ∀ w', w'.cell? p = some u → (execOp a.eval o).run P w' = .ok (.value v) w')
    (h : ∀ K : Act → Prop, (∀ a, wpCan P ops Q k rest F a w → K a) → K (a.put o.dst v)) : wpCan P ops Q k (.op i 1 rest) F a w :=
  CanT.held hi hg ⟨v, fun w' h => hl w' ((Below.cell (hF w' h) hp).trans hc), h⟩
end
theorem step_appBg {P : Program} (w : World) {ops : Array Oper} {o : Oper} {a : Act} {K : Act → World → Prop} {Q : Exit → Act → World → Prop} {R : Prop} (hgd : Region.wanted o (yielded ops a.tmps) = true) (s x : Operand) (t : TypeId)
    (ho : o.op = .call { callee := .builtin .append, args := #[s, x], argTypes := #[t, t] })
    (base : Nat) (E : TypeId) (i : TypeInfo) (ht : P.underlying t = some (.slice E)) (hi : IsByte P E i)
    (v : Value) (l : List UInt8) (hs : a.eval s = v) (hown : OwnB w base E v l)
    (B : Nat) (A : Option Addr) (m c : Nat) (r : List UInt8) (hx : a.eval x = .slice A m c) (hm : m = r.length) (hr : ReadB w B A r)
    (hbytes : l.length + r.length ≤ 140737488355328) (hbase : base ≤ w.heap.size)
    (h : ∀ v' w', OwnB w' base E v' (l ++ r) → w.grownBy w' v.ownBlock → (v'.ownBlock = v.ownBlock ∨ v'.ownBlock = some w.heap.size) → Below base w w' → K (a.put o.dst v') w') :
    if Region.wanted o (yielded ops a.tmps) = true then Oper.wp P o a w K Q else R := by
  subst hm
  rw [if_pos hgd]
  refine wp_append_any w s x t ho base E i (.int .u8 0) 1 1 ht hi.1 hi.2.1 hi.2.2.1 hi.2.2.2 rfl (by omega) v l.length (bvs l) hs hown B A r.length c (bvs r) hx hr.reads (bvs_one r) (by unfold maxLen; omega) (by omega) hbase ?_
  intro v' w' h1 h2 h3
  refine h v' w' ?_ h2 h3 ((Below.refl base w).grown h2 hbase (fun k hk => (World.ownsRow.lt hown k hk).1))
  unfold OwnB
  rw [List.length_append, bvs_append]
  exact h1
/-- a new block: what grows from there on, but for that block, leaves all that was there -/
theorem grown_new {w : World} {o : Obj} {w' : World} {g : Nat} (hg : g = w.heap.size) (h : (w.alloc o).grownBy w' (some g)) : w.grownBy w' none := by
  subst hg
  have hb : Below w.heap.size w w' := ((Below.refl _ _).alloc (Nat.le_refl _) o).trans (below_of_only h (Nat.le_refl _) (by simp))
  exact only_of_below hb none
theorem grown_read {w w' : World} {base g : Nat} {E : TypeId} {l : List UInt8} {A : Option Addr} {c : Nat} (ho : OwnB w base E (.slice A l.length c) l) (hg : w.grownBy w' (some g)) (hne : g < base) : ∃ B, ReadB w' B A l := by
  refine ⟨_, ReadB.of_own (ho.grown hg ?_)⟩
  right
  intro e
  have := ho.ge g e
  omega
theorem none_read {w w' : World} {A : Option Addr} {l : List UInt8} (hr : ReadB w w.heap.size A l) (hg : w.grownBy w' none) : ∃ B, ReadB w' B A l :=
  ⟨_, hr.keep fun p hp => World.cell?_of_block (hg.block p.block hp (by simp))⟩
end CanF
end Go.Proofs.Ytcbkhbnemhkheaa

/- Bytes that a call owns, anywhere in a block of their own: what is cut off in front stays behind the address; append has room behind, or moves. -/
import Derived.Test.YtiofkhjpknfkgaaDoorP01
import Derived.Test.YtiofkhjpknfkgaaDoorP02
import Derived.Test.YtiofkhjpknfkgaaDoorP03
import Derived.Test.YtiofkhjpknfkgaaDoorP04
import Derived.Test.YtiofkhjpknfkgaaDoorP05
import Derived.Test.YtiofkhjpknfkgaaDoorP06
import Derived.Test.YtiofkhjpknfkgaaDoorP07
import Derived.Test.YtiofkhjpknfkgaaDoorP08
import Derived.Test.YtiofkhjpknfkgaaDoorP09
import Derived.Test.YtiofkhjpknfkgaaDoorP10
import Derived.Deep.AppendSrc
namespace Go.Proofs.YtiofkhjpknfkgaaDoor
namespace Ba
open Go.RowKit Sm
set_option linter.unusedVariables false
def OwnO (w : World) (base : Nat) (E : TypeId) (v : Value) (l : List UInt8) : Prop :=
  (l = [] ∧ ∃ A, v = .slice A 0 0) ∨
  ∃ g o c cs, v = .slice (some ⟨g, o, none⟩) l.length c ∧ base ≤ g ∧ Blk w g E cs ∧ cs.size = o + c ∧ c ≤ 9223372036854775807 ∧ l.length ≤ c ∧ ∀ j, j < l.length → cs[o + j]? = some (bv (l.getD j 0))
section
variable {w w' : World} {base : Nat} {E : TypeId} {v : Value} {l : List UInt8}
theorem OwnO.of_own (h : OwnB w base E v l) : OwnO w base E v l := by
  obtain ⟨hl, ⟨rfl, hn⟩ | ⟨g, cap, cur, rfl, hb, hg, hc, hm, hs, ht⟩⟩ := h
  · exact .inl ⟨List.eq_nil_of_length_eq_zero hn, none, rfl⟩
  · refine .inr ⟨g, 0, cap, cur, rfl, hb, hg, by omega, by unfold maxLen at hm; omega, hc, fun j hj => ?_⟩
    have h1 := bvs_get l j hj
    rw [← ht] at h1
    rw [Nat.zero_add]
    rw [List.getElem?_take_of_lt (by omega)] at h1
    rw [← Array.getElem?_toList]
    exact h1
theorem OwnO.opens (h : OwnO w base E v l) : ∃ A c, v = .slice A l.length c ∧ l.length ≤ c ∧ c ≤ 9223372036854775807 ∧ ReadB w w.heap.size A l := by
  obtain ⟨rfl, A, rfl⟩ | ⟨g, o, c, cs, rfl, hb, hB, hs, hm, hc, hcs⟩ := h
  · exact ⟨A, 0, rfl, Nat.le_refl _, by omega, ReadB.nil⟩
  · refine ⟨_, c, rfl, hc, hm, fun _ => ⟨g, o, rfl, hB.lt, fun k hk => ?_⟩⟩
    rw [Blk.cell hB, hcs k hk]
    rfl
theorem OwnO.kept {row : Option Nat} (h : OwnO w base E v l) (hg : w.grownBy w' row) (hne : v.ownBlock = none ∨ v.ownBlock ≠ row) : OwnO w' base E v l := by
  obtain h | ⟨g, o, c, cs, rfl, hb, hB, rest⟩ := h
  · exact .inl h
  · refine .inr ⟨g, o, c, cs, rfl, hb, hB.grown hg ?_, rest⟩
    rcases hne with h | h
    · cases h
    · exact h
theorem OwnO.keptB (h : OwnO w base E v l) (hb : Below w.heap.size w w') : OwnO w' base E v l := by
  obtain h | ⟨g, o, c, cs, rfl, hbb, hB, rest⟩ := h
  · exact .inl h
  · exact .inr ⟨g, o, c, cs, rfl, hbb, hB.below hb hB.lt, rest⟩
theorem OwnO.far (h : OwnO w base E v l) {p : Addr} (hp : v.ownBlock ≠ some p.block) (u : Value) : OwnO (w.setCell p u) base E v l := by
  obtain h | ⟨g, o, c, cs, rfl, hbb, hB, rest⟩ := h
  · exact .inl h
  · exact .inr ⟨g, o, c, cs, rfl, hbb, hB.far (fun e => hp (by rw [← e]; rfl)) u, rest⟩
theorem OwnO.weak {b2 : Nat} (h : OwnO w base E v l) (hb : b2 ≤ base) : OwnO w b2 E v l := by
  obtain h | ⟨g, o, c, cs, rfl, hbb, rest⟩ := h
  · exact .inl h
  · exact .inr ⟨g, o, c, cs, rfl, by omega, rest⟩
theorem OwnO.ne_blk {g : Nat} {t : TypeId} {cs : Array Value} (h : OwnO w base E v l) (hl : 0 < l.length) (hB : Blk w g t cs) (hne : E ≠ t) : v.ownBlock ≠ some g := by
  obtain ⟨rfl, _⟩ | ⟨g', o, c, cs', rfl, hbb, hB', rest⟩ := h
  · simp at hl
  · intro e
    injection e with e
    exact Blk.ne_ hB' hB hne e
/-- the first k bytes are cut off -/
theorem OwnO.drop {A : Option Addr} {n c : Nat} (h : OwnO w base E (.slice A n c) l) (k : Nat) (hk : k ≤ l.length) : OwnO w base E (.slice (if c = k then A else A.map (·.add k)) (n - k) (c - k)) (l.drop k) := by
  obtain ⟨rfl, A', e⟩ | ⟨g, o, c', cs, e, hbb, hB, hs, hm, hc, hcs⟩ := h
  · injection e with e1 e2 e3
    subst e1 e2 e3
    exact .inl ⟨by simp, (if 0 = k then A else A.map (·.add k)), by simp⟩
  · injection e with e1 e2 e3
    subst e1 e2 e3
    by_cases hck : c = k
    · subst hck
      have : l.length = c := by omega
      exact .inl ⟨by rw [List.drop_eq_nil_iff]; omega, _, by rw [show l.length - c = 0 by omega, Nat.sub_self]⟩
    · rw [if_neg hck]
      refine .inr ⟨g, o + k, c - k, cs, by rw [List.length_drop, Option.map_some, add_lit_], hbb, hB, by omega, by omega, by rw [List.length_drop]; omega, fun j hj => ?_⟩
      rw [List.length_drop] at hj
      rw [Nat.add_assoc, hcs (k + j) (by omega)]
      simp [List.getD]
end
section
variable {P : Program} (w : World)
theorem src_bytes {E t : TypeId} {B : Nat} {A : Option Addr} {c : Nat} {r : List UInt8} (ht : P.underlying t = some (.slice E)) (hr : ReadB w B A r) : Src P 1 t (.slice A r.length c) r.length (bvs r) w := by
  have hd := hr.reads
  rcases A with _ | ad
  · have h0 : r = [] := by
      rcases Nat.eq_zero_or_pos r.length with h | h
      · exact List.eq_nil_of_length_eq_zero h
      · obtain ⟨_, _, e, _⟩ := hr h
        cases e
    subst h0
    exact Src.ofNil w ht c
  · refine Src.ofSlice w ht ad r.length c (bvs r) (by rw [bvs_length, Nat.mul_one]) (fun j u hu => ?_) (bvs_one r)
    have hjl : j < r.length := by have := (List.getElem?_eq_some_iff.1 hu).1; rwa [bvs_length] at this
    obtain ⟨ad', e, _, hc⟩ := hd.2 (by omega)
    injection e with e
    subst e
    exact hc j u hu
theorem run_appO (base : Nat) (t ty E : TypeId) (i : TypeInfo) (ht : P.underlying t = some (.slice E)) (hi : IsByte P E i) (v : Value) (l : List UInt8) (hown : OwnO w base E v l)
    (B : Nat) (A : Option Addr) (c : Nat) (r : List UInt8) (hr : ReadB w B A r) (hbytes : l.length + r.length ≤ 140737488355328) (hbase : base ≤ w.heap.size) :
    ∃ v' w', (Builtin.append_ #[t, t] ty #[v, .slice A r.length c]).run P w = .ok v' w' ∧ OwnO w' base E v' (l ++ r) ∧ w.grownBy w' v.ownBlock ∧ (v'.ownBlock = v.ownBlock ∨ v'.ownBlock = some w.heap.size) ∧ Below base w w' := by
  obtain ⟨hi1, hz, hsz, hby⟩ := hi
  have hsrc := src_bytes (P := P) (c := c) w ht hr
  have hgrow : ∀ (A0 : Option Addr) (n0 c0 : Nat) (hn : n0 = l.length) (hcr : c0 < n0 + r.length) (hold : (Builtin.firstCells i.size n0 (.slice A0 n0 c0)).run P w.drew = .ok (bvs l).toArray w.drew),
      ∃ v' w', (Builtin.append_ #[t, t] ty #[.slice A0 n0 c0, .slice A r.length c]).run P w = .ok v' w' ∧ OwnO w' base E v' (l ++ r) ∧ w.grownBy w' (Value.slice A0 n0 c0).ownBlock ∧ (v'.ownBlock = (Value.slice A0 n0 c0).ownBlock ∨ v'.ownBlock = some w.heap.size) ∧ Below base w w' := by
    intro A0 n0 c0 hn hcr hold
    subst hn
    have hrun := run_append_grow_src (P := P) w t t ty E i _ ht hi1 hz A0 l.length c0 (bvs l) hold (.slice A r.length c) r.length (bvs r) (by rw [hsz]; exact hsrc) hcr (by omega) (growslice_fits hcr (by rw [hby, Nat.mul_one]; exact hbytes))
    have hge := grownCap_ge w (l.length + r.length) c0 E
    have hcm : grownCap w (l.length + r.length) c0 E ≤ maxLen := grownCap_le_maxLen w (l.length + r.length) c0 E (by unfold maxLen; omega)
    have hbel : Below base w (w.drew.alloc (.cells ((bvs l ++ bvs r).toArray ++ Builtin.zeroCells (Value.int .u8 0).cells (grownCap w (l.length + r.length) c0 E - (l.length + r.length))) E)) := ((Below.refl base w).drew).alloc hbase _
    refine ⟨_, _, hrun, .inr ⟨w.heap.size, 0, _, _, by rw [List.length_append], hbase, heap_alloc_new w.drew _, ?_, by unfold maxLen at hcm; exact hcm, by rw [List.length_append]; exact hge, fun j hj => ?_⟩, ⟨rfl, rfl, rfl, by simp, fun k hk _ => Below.heap_alloc w.drew _ k hk⟩, .inr rfl, hbel⟩
    · simp only [Array.size_append, List.size_toArray, size_zeroCells, List.length_append, bvs_length, show (Value.int .u8 0).cells.size = 1 from rfl]
      omega
    · rw [Nat.zero_add, ← bvs_append]
      rw [Array.getElem?_append_left (by rw [List.size_toArray, bvs_length]; exact hj), List.getElem?_toArray]
      exact bvs_get _ j hj
  obtain ⟨rfl, A0, rfl⟩ | ⟨g, o, c0, cs, rfl, hb, hB, hs, hm, hc, hcs⟩ := hown
  · by_cases h0 : r.length = 0
    · have hr0 : r = [] := List.eq_nil_of_length_eq_zero h0
      subst hr0
      refine ⟨.slice A0 0 0, w, ?_, .inl ⟨rfl, A0, rfl⟩, World.grownBy.refl w _, .inl rfl, Below.refl _ _⟩
      have hx : (Builtin.firstCells 1 0 (.slice A 0 c)).run P w = .ok #[] w := hsrc.cells
      rcases A0 with _ | a0 <;> simp [Builtin.append_, run_underlying ht, sizeOf, typeInfo, hi1, Builtin.lenOf, hsz, hx, storeCells]
    · refine hgrow A0 0 0 rfl (by omega) ?_
      rcases A0 with _ | a0 <;> simp [Builtin.firstCells, bvs, loadCells, loadCellsFrom]
  · by_cases hroom : l.length + r.length ≤ c0
    · have hrun := run_append_room_src (P := P) w t t ty E i ht hi1 g o l.length c0 (.slice A r.length c) r.length (bvs r) (by rw [hsz]; exact hsrc) hroom
        (fun j hj => by
          rw [bvs_length] at hj
          rw [hsz, Nat.mul_one, Blk.cell hB, Array.getElem?_eq_getElem (by omega)]
          rfl)
        (fun j hj => Blk.frozen hB _)
      rw [hsz, Nat.mul_one] at hrun
      have hdec : cs = (cs.toList.take (o + l.length) ++ ((cs.toList.drop (o + l.length)).take r.length ++ cs.toList.drop (o + l.length + r.length))).toArray := by
        apply Array.ext'
        have e : cs.toList.drop (o + l.length + r.length) = (cs.toList.drop (o + l.length)).drop r.length := by rw [List.drop_drop]
        rw [e, List.take_append_drop, List.take_append_drop]
      have hcl : cs.toList.length = cs.size := Array.length_toList
      have hpl : (cs.toList.take (o + l.length)).length = o + l.length := by rw [List.length_take, hcl]; omega
      have hol : ((cs.toList.drop (o + l.length)).take r.length).length = (bvs r).length := by rw [List.length_take, List.length_drop, hcl, bvs_length]; omega
      have hB2 : Blk w g E (cs.toList.take (o + l.length) ++ ((cs.toList.drop (o + l.length)).take r.length ++ cs.toList.drop (o + l.length + r.length))).toArray := by rw [← hdec]; exact hB
      have hB3 := Blk.setCells (bvs r) _ _ _ hB2 hol
      rw [hpl] at hB3
      have hgr := only_setCells w g (o + l.length) (bvs r)
      refine ⟨_, _, hrun, .inr ⟨g, o, c0, _, by rw [List.length_append], hb, hB3, ?_, hm, by rw [List.length_append]; exact hroom, fun j hj => ?_⟩, hgr, .inl rfl, below_of_only hgr hb hbase⟩
      · simp only [List.size_toArray, List.length_append, hpl, bvs_length, List.length_drop, hcl]
        omega
      · rw [List.getElem?_toArray]
        rw [List.length_append] at hj
        rcases Nat.lt_or_ge j l.length with h1 | h1
        · rw [List.getElem?_append_left (by rw [hpl]; omega), List.getElem?_take_of_lt (by omega), Array.getElem?_toList, hcs j h1]
          simp [List.getD, List.getElem?_append_left h1]
        · rw [List.getElem?_append_right (by rw [hpl]; omega), hpl, List.getElem?_append_left (by rw [bvs_length]; omega), show o + j - (o + l.length) = j - l.length by omega, bvs_get r _ (by omega)]
          simp [List.getD, List.getElem?_append_right h1, bv]
    · refine hgrow (some ⟨g, o, none⟩) l.length c0 rfl (by omega) ?_
      rw [hsz]
      refine run_firstCells_some w.drew 1 l.length ⟨g, o, none⟩ l.length c0 (bvs l) (by rw [bvs_length, Nat.mul_one]) (fun j u hu => ?_)
      have hjl : j < l.length := by have := (List.getElem?_eq_some_iff.1 hu).1; rwa [bvs_length] at this
      rw [add_lit_]
      show w.cell? _ = _
      rw [Blk.cell hB, hcs j hjl, ← hu, bvs_get l j hjl]
      rfl
theorem wp_appO {o : Oper} {a : Act} {K : Act → World → Prop} {Q : Exit → Act → World → Prop} (s x : Operand) (t : TypeId)
    (ho : o.op = .call { callee := .builtin .append, args := #[s, x], argTypes := #[t, t] })
    (base : Nat) (E : TypeId) (i : TypeInfo) (ht : P.underlying t = some (.slice E)) (hi : IsByte P E i)
    (v : Value) (l : List UInt8) (hs : a.eval s = v) (hown : OwnO w base E v l)
    (B : Nat) (A : Option Addr) (m c : Nat) (r : List UInt8) (hx : a.eval x = .slice A m c) (hm : m = r.length) (hr : ReadB w B A r)
    (hbytes : l.length + r.length ≤ 140737488355328) (hbase : base ≤ w.heap.size)
    (h : ∀ v' w', OwnO w' base E v' (l ++ r) → w.grownBy w' v.ownBlock → (v'.ownBlock = v.ownBlock ∨ v'.ownBlock = some w.heap.size) → Below base w w' → K (a.put o.dst v') w') : o.wp P a w K Q := by
  subst hm
  obtain ⟨v', w', hrun, h2, h3, h4, h5⟩ := run_appO (P := P) w base t o.type E i ht hi v l hown B A c r hr hbytes hbase
  unfold Oper.wp execOp
  simp only [ho, resolve, invoke, builtin, Sem.run_bind, Sem.run_pure, Result.andThen_ok, List.map_toArray, List.map_cons, List.map_nil, hs, hx, hrun]
  exact h v' w' h2 h3 h4 h5
theorem wpList_appO {ops : Array Oper} {rest : List Oper} {o : Oper} {a : Act} {Q : Exit → Act → World → Prop} (hgd : o.guard = none) (s x : Operand) (t : TypeId)
    (ho : o.op = .call { callee := .builtin .append, args := #[s, x], argTypes := #[t, t] })
    (base : Nat) (E : TypeId) (i : TypeInfo) (ht : P.underlying t = some (.slice E)) (hi : IsByte P E i)
    (v : Value) (l : List UInt8) (hs : a.eval s = v) (hown : OwnO w base E v l)
    (B : Nat) (A : Option Addr) (m c : Nat) (r : List UInt8) (hx : a.eval x = .slice A m c) (hm : m = r.length) (hr : ReadB w B A r)
    (hbytes : l.length + r.length ≤ 140737488355328) (hbase : base ≤ w.heap.size)
    (h : ∀ v' w', OwnO w' base E v' (l ++ r) → w.grownBy w' v.ownBlock → (v'.ownBlock = v.ownBlock ∨ v'.ownBlock = some w.heap.size) → Below base w w' → wpList P ops Q rest (a.put o.dst v') w') : wpList P ops Q (o :: rest) a w :=
  wpList_plain hgd fun _ hK => wp_appO w s x t ho base E i ht hi v l hs hown B A m c r hx hm hr hbytes hbase fun v' w' h2 h3 h4 h5 => hK _ _ (h v' w' h2 h3 h4 h5)
end
end Ba
end Go.Proofs.YtiofkhjpknfkgaaDoor
/- A region that draws its order: what holds of every world in between (F) says that the old blocks are as they were. -/
namespace Go.Proofs.YtiofkhjpknfkgaaDoor
namespace CanF
open CanT Go.RowKit Ba Sm
set_option linter.unusedVariables false
section
variable {P : Program} {ops : Array Oper} {Q : Exit → Act → World → Prop} {k : Nat} {F : World → Prop}
theorem region {id : Nat} {l : List Oper} {a : Act} {w : World} (k : Nat) (ord : Ord) (hm : P.follows .mixedOrders = true)
    (hB : (Region.noSelect l.toArray && okLen ord l.length && canB l.toArray k ord false (Array.replicate l.length false)) = true)
    (h : wpCan P l.toArray (NoPanic Q) k ord (fun w' => w.drew.grownBy w' none) a w.drew) : (Code.region id l.toArray true).wp P Q a w :=
  CanT.region (fun w' => w.drew.grownBy w' none) k ord hm hB (World.grownBy.refl _ _) h
variable {i : Nat} {o : Oper} {a : Act} {w W : World} {b : Nat} {rest : Ord} {B : Nat}
theorem row (hi : ops[i]? = some o) (hg : Region.wanted o (yielded ops a.tmps) = true)
    (ty : TypeId) (x : Operand) (ho : o.op = .load ty x) (g p : Nat) (cs : List Value) (hx : a.eval x = .pointer (some ⟨g, p, none⟩)) (hF : ∀ w', F w' → Below B W w') (hR : W.rangeAt g p cs) (hgB : g < B) (d : TypeDesc) (hu : P.underlying ty = some d) (hd : d.isRow = true)
    (hs : (P.info? ty).map (·.size) = some cs.length) (h : ∀ K : Act → Prop, (∀ a, wpCan P ops Q k rest F a w → K a) → K (a.put o.dst (.agg cs.toArray))) : wpCan P ops Q k (.op i 1 rest) F a w :=
  CanT.heldR hi hg ty x ho g p cs hx (fun w' h j v hv => (Below.cell (p := ⟨g, p + j, none⟩) (hF w' h) hgB).trans (hR j v hv)) d hu hd hs h
theorem strF (hi : ops[i]? = some o) (hg : Region.wanted o (yielded ops a.tmps) = true)
    (src dst e : TypeId) (x : Operand) (ho : o.op = .convert src dst x) (hs : P.underlying src = some (.slice e)) (he : P.underlying e = some (.int .u8)) (hd : P.underlying dst = some .string) (A : Option Addr) (n c : Nat) (l : List UInt8)
    (hx : a.eval x = .slice A n c) (hn : n = l.length) (hF : ∀ w', F w' → ∃ B, ReadB w' B A l) (h : ∀ K : Act → Prop, (∀ a, wpCan P ops Q k rest F a w → K a) → K (a.put o.dst (.string (S l)))) : wpCan P ops Q k (.op i 1 rest) F a w := by
  subst hn
  refine CanT.held hi hg ⟨.string (S l), fun w' hF' => ?_, h⟩
  obtain ⟨B, hR⟩ := hF w' hF'
  unfold execOp
  simp only [ho, hx, Sem.run_bind, run_strof w' src e hs he A c B l hR dst hd]
  rfl
theorem str (hi : ops[i]? = some o) (hg : Region.wanted o (yielded ops a.tmps) = true)
    (src dst e : TypeId) (x : Operand) (ho : o.op = .convert src dst x) (hs : P.underlying src = some (.slice e)) (he : P.underlying e = some (.int .u8)) (hd : P.underlying dst = some .string) (A : Option Addr) (n c : Nat) (l : List UInt8)
    (hx : a.eval x = .slice A n c) (hn : n = l.length) (hF : ∀ w', F w' → Below B W w') (hR : ReadB W B A l) (h : ∀ K : Act → Prop, (∀ a, wpCan P ops Q k rest F a w → K a) → K (a.put o.dst (.string (S l)))) : wpCan P ops Q k (.op i 1 rest) F a w :=
  strF hi hg src dst e x ho hs he hd A n c l hx hn (fun w' h => ⟨B, hR.below (hF w' h)⟩) h
theorem cell (hi : ops[i]? = some o) (hg : Region.wanted o (yielded ops a.tmps) = true) (u v : Value) (p : Addr) (hF : ∀ w', F w' → Below B W w') (hc : W.cell? p = some u) (hp : p.block < B)
    (hl : ∀ w', w'.cell? p = some u → (execOp a.eval o).run P w' = .ok (.value v) w')
    (h : ∀ K : Act → Prop, (∀ a, wpCan P ops Q k rest F a w → K a) → K (a.put o.dst v)) : wpCan P ops Q k (.op i 1 rest) F a w :=
  CanT.held hi hg ⟨v, fun w' h => hl w' ((Below.cell (hF w' h) hp).trans hc), h⟩
end
theorem step_appBg {P : Program} (w : World) {ops : Array Oper} {o : Oper} {a : Act} {K : Act → World → Prop} {Q : Exit → Act → World → Prop} {R : Prop} (hgd : Region.wanted o (yielded ops a.tmps) = true) (s x : Operand) (t : TypeId)
    (ho : o.op = .call { callee := .builtin .append, args := #[s, x], argTypes := #[t, t] })
    (base : Nat) (E : TypeId) (i : TypeInfo) (ht : P.underlying t = some (.slice E)) (hi : IsByte P E i)
    (v : Value) (l : List UInt8) (hs : a.eval s = v) (hown : OwnB w base E v l)
    (B : Nat) (A : Option Addr) (m c : Nat) (r : List UInt8) (hx : a.eval x = .slice A m c) (hm : m = r.length) (hr : ReadB w B A r)
    (hbytes : l.length + r.length ≤ 140737488355328) (hbase : base ≤ w.heap.size)
    (h : ∀ v' w', OwnB w' base E v' (l ++ r) → w.grownBy w' v.ownBlock → (v'.ownBlock = v.ownBlock ∨ v'.ownBlock = some w.heap.size) → Below base w w' → K (a.put o.dst v') w') :
    if Region.wanted o (yielded ops a.tmps) = true then Oper.wp P o a w K Q else R := by
  subst hm
  rw [if_pos hgd]
  refine wp_append_any w s x t ho base E i (.int .u8 0) 1 1 ht hi.1 hi.2.1 hi.2.2.1 hi.2.2.2 rfl (by omega) v l.length (bvs l) hs hown B A r.length c (bvs r) hx hr.reads (bvs_one r) (by unfold maxLen; omega) (by omega) hbase ?_
  intro v' w' h1 h2 h3
  refine h v' w' ?_ h2 h3 ((Below.refl base w).grown h2 hbase (fun k hk => (World.ownsRow.lt hown k hk).1))
  unfold OwnB
  rw [List.length_append, bvs_append]
  exact h1
/-- a new block: what grows from there on, but for that block, leaves all that was there -/
theorem grown_new {w : World} {o : Obj} {w' : World} {g : Nat} (hg : g = w.heap.size) (h : (w.alloc o).grownBy w' (some g)) : w.grownBy w' none := by
  subst hg
  have hb : Below w.heap.size w w' := ((Below.refl _ _).alloc (Nat.le_refl _) o).trans (below_of_only h (Nat.le_refl _) (by simp))
  exact only_of_below hb none
theorem grown_read {w w' : World} {base g : Nat} {E : TypeId} {l : List UInt8} {A : Option Addr} {c : Nat} (ho : OwnB w base E (.slice A l.length c) l) (hg : w.grownBy w' (some g)) (hne : g < base) : ∃ B, ReadB w' B A l := by
  refine ⟨_, ReadB.of_own (ho.grown hg ?_)⟩
  right
  intro e
  have := ho.ge g e
  omega
theorem none_read {w w' : World} {A : Option Addr} {l : List UInt8} (hr : ReadB w w.heap.size A l) (hg : w.grownBy w' none) : ∃ B, ReadB w' B A l :=
  ⟨_, hr.keep fun p hp => World.cell?_of_block (hg.block p.block hp (by simp))⟩
end CanF
end Go.Proofs.YtiofkhjpknfkgaaDoor
/- A window, of the program: New, Sum, Len, In, Out, Roll, Bytes, Fork. -/
namespace Go.Proofs.YtiofkhjpknfkgaaDoor
namespace Ro
open Go.RowKit Flo Ba
set_option linter.unusedVariables false
attribute [local go_sem] real_C imag_C complex_F complex_F0 complex_0F complex_1F eqGuard_F eqGuard_C fold_F
theorem info5 : (Tryd.prog.info? 5).map (fun i => (i.zero, i.size, i.bytes)) = some (some (.int .u8 0), 1, 1) := by kernel_rfl
theorem run_store_complex {P : Program} {w : World} {a : Addr} {m : Mode} (k : FloatKind) (x y : Nat) : (store a (.complex k x y) m).run P w = stored P w a (.complex k x y) m := run_store P w a _ m rfl
attribute [local go_sem] run_store_complex
/-- a window in block g: all that it has lies in block base or behind it -/
def IsW (w : World) (base g : Nat) (l : List UInt8) : Prop :=
  base ≤ g ∧ ∃ v, Blk w g 114 #[v, C (ha l) (hb l)] ∧ OwnO w base 5 v l ∧ v.ownBlock ≠ some g
theorem IsW.lt {w : World} {base g : Nat} {l : List UInt8} (h : IsW w base g l) : g < w.heap.size := by
  obtain ⟨_, v, h, _⟩ := h
  exact h.lt
theorem IsW.below {w w' : World} {base g : Nat} {l : List UInt8} (h : IsW w base g l) (hb : Below w.heap.size w w') : IsW w' base g l := by
  obtain ⟨h0, v, h1, h2, h3⟩ := h
  exact ⟨h0, v, h1.below hb h1.lt, h2.keptB hb, h3⟩
theorem IsW.base_le {w : World} {base g : Nat} {l : List UInt8} (h : IsW w base g l) : base ≤ w.heap.size := Nat.le_trans h.1 (Nat.le_of_lt h.lt)
set_option maxRecDepth 100000 in
set_option maxHeartbeats 1000000 in
theorem new_calls {l : List UInt8} {A : Option Addr} {n c : Nat} {w : World} (hn : n = l.length) (hc : l.length ≤ c) (hr : ReadB w w.heap.size A l) (hm : l.length ≤ 140737488355328) : Calls Tryd.prog 31 #[.slice A n c] w
    fun e w' => ∃ g, e = .returned (.pointer (some ⟨g, 0, none⟩)) ∧ IsW w' w.heap.size g l ∧ Below w.heap.size w w' := by
  have Hr := Lib.hid hr
  have Hn := Lib.hid hn
  clear hr hn
  go_enter Tryd.func31, Tryd.ntmps31
  go_wp2_with fail
  refine (Cl.cloneN Hn.out hc hm Hr.out).mono ?_
  rintro e w1 ⟨v, rfl, ho, hb⟩
  obtain ⟨A1, c1, rfl, t1, t2, t3, t4⟩ := ho.opens
  have Ho := Lib.hid ho
  clear t3 t4
  have Hb := Lib.hid hb
  have Hr1 := Lib.hid (Hr.out.below hb)
  clear ho hb
  go_wp2_with fail
  have hp := pair_calls (c := c) Hn.out Hr1.out (by omega)
  unfold C at hp
  obtain ⟨X, hX⟩ : ∃ X, X = FL (ha l) := ⟨_, rfl⟩
  obtain ⟨Y, hY⟩ : ∃ Y, Y = FL (hb l) := ⟨_, rfl⟩
  rw [← hX, ← hY] at hp
  have HX := Lib.hid hX
  have HY := Lib.hid hY
  clear hX hY
  refine hp.mono ?_
  clear hp
  rintro e w2 ⟨rfl, rfl⟩
  go_wp2_with fail
  go_ret
  refine ⟨w1.heap.size, rfl, ⟨Hb.out.size, _, by unfold C; rw [← HX.out, ← HY.out]; exact heap_alloc_new w1 _, OwnO.keptB (OwnO.of_own Ho.out) ((Below.refl _ _).alloc (Nat.le_refl _) _), fun e => ?_⟩, Hb.out.alloc Hb.out.size _⟩
  have := (World.ownsRow.lt Ho.out _ e).2
  omega
set_option maxRecDepth 100000 in
set_option maxHeartbeats 1000000 in
theorem wsum_calls {w : World} {base g : Nat} {l : List UInt8} (h : IsW w base g l) : Calls Tryd.prog 33 #[.pointer (some ⟨g, 0, none⟩)] w fun e w' => e = .returned (.int .u32 (rsum l : Nat)) ∧ w = w' := by
  obtain ⟨h0, v, hB, ho, hne⟩ := h
  have h1 := ha_lt l
  have h2 := hb_lt l
  have Hp := Lib.hid (pack_calls (ha l) (hb l) (by omega) (by omega) (by omega) (by omega) w)
  have he : ((hb l : Int) % 65536 * 65536 + (ha l : Int) % 65536) = ((rsum l : Nat) : Int) := by unfold rsum; omega
  rw [he] at Hp
  have hc : w.cell? ⟨g, 1, none⟩ = some (C (ha l) (hb l)) := Blk.cell hB 1
  generalize (ha l : Int) = a at *
  generalize (hb l : Int) = b at *
  clear he h1 h2 hB ho
  go_enter Tryd.func33, Tryd.ntmps33
  go_wp2_with fail
  refine Hp.out.mono ?_
  rintro e w1 ⟨rfl, rfl⟩
  go_wp2_with fail
  go_ret
  exact ⟨rfl, rfl⟩
set_option maxRecDepth 100000 in
set_option maxHeartbeats 1000000 in
theorem wlen_calls {w : World} {base g : Nat} {l : List UInt8} (h : IsW w base g l) : Calls Tryd.prog 80 #[.pointer (some ⟨g, 0, none⟩)] w fun e w' => e = .returned (.int .i64 (l.length : Nat)) ∧ w = w' := by
  obtain ⟨h0, v, hB, ho, hne⟩ := h
  obtain ⟨A, c, rfl, h1, h2, h3⟩ := ho.opens
  have hc : w.cell? ⟨g, 0, none⟩ = some (.slice A l.length c) := Blk.cell hB 0
  clear hB ho hne h3
  go_enter Tryd.func80, Tryd.ntmps80
  go_wp2_with fail
  go_ret
  exact ⟨rfl, rfl⟩
theorem in_facts {w w1 w2 : World} {base g X Y : Nat} {l' : List UInt8} {v v2 : Value} {t E : TypeId} (hb0 : base ≤ g) (hB : Blk w1 g t #[v, .complex .f64 X Y]) (hne : v.ownBlock ≠ some g) (ho : OwnO w2 base E v2 l') (hg : w1.grownBy w2 v.ownBlock) (hor : v2.ownBlock = v.ownBlock ∨ v2.ownBlock = some w1.heap.size) (hb1 : Below base w w1) (hb2 : Below base w1 w2) :
    ∃ A2 n2 c2, v2 = .slice A2 n2 c2 ∧ w2.cell? ⟨g, 0, none⟩ = some v ∧ w2.frozen? ⟨g, 0, none⟩ = false ∧ (w2.setCell ⟨g, 0, none⟩ v2).cell? ⟨g, 1, none⟩ = some (.complex .f64 X Y) ∧ (w2.setCell ⟨g, 0, none⟩ v2).frozen? ⟨g, 1, none⟩ = false ∧
      ∀ X2 Y2, Blk ((w2.setCell ⟨g, 0, none⟩ v2).setCell ⟨g, 1, none⟩ (.complex .f64 X2 Y2)) g t #[v2, .complex .f64 X2 Y2] ∧ OwnO ((w2.setCell ⟨g, 0, none⟩ v2).setCell ⟨g, 1, none⟩ (.complex .f64 X2 Y2)) base E v2 l' ∧ v2.ownBlock ≠ some g ∧ Below base w ((w2.setCell ⟨g, 0, none⟩ v2).setCell ⟨g, 1, none⟩ (.complex .f64 X2 Y2)) := by
  have hB2 : Blk w2 g t #[v, .complex .f64 X Y] := hB.grown hg (fun e => hne e.symm)
  have hne2 : v2.ownBlock ≠ some g := by
    rcases hor with e | e
    · rw [e]; exact hne
    · rw [e]
      intro e2
      injection e2 with e2
      have := hB.lt
      omega
  obtain ⟨A2, c2, e, _, _, _⟩ := ho.opens
  have hB3 : Blk (w2.setCell ⟨g, 0, none⟩ v2) g t #[v2, .complex .f64 X Y] := Blk.set_ hB2 0 v2
  refine ⟨A2, _, c2, e, Blk.cell hB2 0, Blk.frozen hB2 0, Blk.cell hB3 1, Blk.frozen hB3 1, fun X2 Y2 => ⟨Blk.set_ hB3 1 _, (ho.far (p := ⟨g, 0, none⟩) hne2 v2).far (p := ⟨g, 1, none⟩) hne2 _, hne2, ((hb1.trans hb2).setCell (p := ⟨g, 0, none⟩) hb0 v2).setCell (p := ⟨g, 1, none⟩) hb0 _⟩⟩
set_option maxRecDepth 100000 in
set_option maxHeartbeats 1000000 in
theorem in_calls {w : World} {base g : Nat} {l : List UInt8} (h : IsW w base g l) (x : UInt8) (hm : l.length ≤ 140737488355320) : Calls Tryd.prog 68 #[.pointer (some ⟨g, 0, none⟩), .int .u8 (x.toNat : Int)] w
    fun e w' => e = .returned (.tuple #[]) ∧ IsW w' base g (l ++ [x]) ∧ Below base w w' := by
  have hgl := h.lt
  have hbl := h.base_le
  obtain ⟨h0, v, hB, ho, hne⟩ := h
  obtain ⟨A0, c0, rfl, t1, t2, t3⟩ := ho.opens
  obtain ⟨i0, hi0⟩ := isByte_of info5
  have Hi := Lib.hid hi0
  have hc : w.cell? ⟨g, 0, none⟩ = some (.slice A0 l.length c0) := Blk.cell hB 0
  have HB := Lib.hid hB
  have Ho := Lib.hid (ho.keptB ((Below.refl _ _).alloc (Nat.le_refl _) (.cells #[.int .u8 (x.toNat : Int)] 5)))
  have Hlit := Lib.hid (ReadB.litN w 5 [.int .u8 (x.toNat : Int)] [x] w.heap.size rfl rfl)
  have Hne := Lib.hid hne
  have Hb := Lib.hid h0
  have Hgl := Lib.hid hgl
  have hadd := fun w => add_calls l x w
  unfold C at hadd
  obtain ⟨X, e1⟩ : ∃ X, X = FL (ha l) := ⟨_, rfl⟩
  obtain ⟨Y, e2⟩ : ∃ Y, Y = FL (hb l) := ⟨_, rfl⟩
  obtain ⟨X2, e3⟩ : ∃ X, X = FL (ha (l ++ [x])) := ⟨_, rfl⟩
  obtain ⟨Y2, e4⟩ : ∃ Y, Y = FL (hb (l ++ [x])) := ⟨_, rfl⟩
  rw [← e1, ← e2, ← e3, ← e4] at hadd
  have Hadd := Lib.hid hadd
  unfold C at HB
  rw [← e1, ← e2] at HB
  have E3 := Lib.hid e3
  have E4 := Lib.hid e4
  clear hadd
  clear hi0 hB ho hne h0 hgl e1 e2 e3 e4
  go_enter Tryd.func68, Tryd.ntmps68
  have HBl := Lib.hid ((Below.refl base w).alloc hbl (.cells #[.int .u8 (x.toNat : Int)] 5))
  go_wp2_with (at_builtin; refine wpList_appO _ rfl (.tmp 10) (.tmp 12) 22 rfl base 5 i0 Tryd.underlying22 Hi.out (.slice A0 l.length c0) l rfl Ho.out (w.heap.size + 1) _ 1 1 [x] rfl rfl Hlit.out (by simp; omega) (by simp; omega) ?_; intro v2 w2 ho2 hg2 hor2 hb2; obtain ⟨A2, n2, c2, rfl, k1, k2, k3, k4, k5⟩ := in_facts Hb.out (HB.out.alloc _) Hne.out ho2 hg2 hor2 HBl.out hb2; have K5 := Lib.hid k5; clear k5 ho2 hg2 hor2 hb2)
  refine (Hadd.out _).mono ?_
  rintro e w3 ⟨rfl, rfl⟩
  go_wp2_with fail
  obtain ⟨j1, j2, j3, j4⟩ := K5.out X2 Y2
  refine bodyPost_end (results_none rfl _ _ _) rfl ⟨rfl, ⟨Hb.out, _, ?_, j2, j3⟩, j4⟩
  unfold C
  rw [← E3.out, ← E4.out]
  exact j1
theorem out_fin {V : World} {base g X Y : Nat} {l : List UInt8} {u0 u : Value} (hb0 : base ≤ g) (hB : Blk V g 114 #[u0, .complex .f64 X Y]) (hO : OwnO V base 5 u l) (hne : u.ownBlock ≠ some g) (hX : X = FL (ha l)) (hY : Y = FL (hb l)) : IsW (V.setCell ⟨g, 0, none⟩ u) base g l := by
  refine ⟨hb0, u, ?_, hO.far (p := ⟨g, 0, none⟩) hne u, hne⟩
  have := Blk.set_ hB 0 u
  unfold C
  rw [← hX, ← hY]
  exact this
theorem ok53_nat {a : Int} (h1 : 0 ≤ a) (h2 : a ≤ 4294967296) : ok53 a := ok53_of (by omega) (by omega)
set_option maxRecDepth 100000 in
set_option maxHeartbeats 1000000 in
theorem out_none {w : World} {base g : Nat} (h : IsW w base g []) : Calls Tryd.prog 67 #[.pointer (some ⟨g, 0, none⟩)] w fun e w' => e = .returned (.tuple #[.int .u8 0, .bool false]) ∧ w = w' := by
  have Hl := Lib.hid (wlen_calls h)
  clear h
  go_enter Tryd.func67, Tryd.ntmps67
  go_wp2_with fail
  refine Hl.out.mono ?_
  rintro e w1 ⟨rfl, rfl⟩
  go_wp2_with fail
  go_ret2
  exact ⟨rfl, rfl⟩
set_option maxRecDepth 100000 in
set_option maxHeartbeats 2000000 in
theorem out_calls {w : World} {base g : Nat} {x : UInt8} {l : List UInt8} (h : IsW w base g (x :: l)) (hm : l.length ≤ 140737488355320) : Calls Tryd.prog 67 #[.pointer (some ⟨g, 0, none⟩)] w
    fun e w' => e = .returned (.tuple #[.int .u8 (x.toNat : Int), .bool true]) ∧ IsW w' base g l ∧ Below base w w' := by
  have Hl := Lib.hid (wlen_calls h)
  have hgl := h.lt
  obtain ⟨h0, v, hB, ho, hne⟩ := h
  obtain ⟨A0, c0, rfl, t1, t2, t3⟩ := ho.opens
  obtain ⟨gb, ob, rfl, hgb, hcs⟩ := t3 (by simp)
  have Hgb := Lib.hid hgb
  clear hgb
  have hb0 := hcs 0 (by simp)
  simp only [Nat.add_zero, List.getD_cons_zero] at hb0
  have hc : w.cell? ⟨g, 0, none⟩ = some (.slice (some ⟨gb, ob, none⟩) (x :: l).length c0) := Blk.cell hB 0
  have hc1 : w.cell? ⟨g, 1, none⟩ = some (C (ha (x :: l)) (hb (x :: l))) := Blk.cell hB 1
  have q1 := ha_lt (x :: l)
  have q2 := hb_lt (x :: l)
  have q3 := ha_out x l
  have q4 := hb_out x l
  have q5 := x.toNat_lt
  generalize ha (x :: l) = a at *
  generalize hb (x :: l) = b at *
  generalize x.toNat = c at *
  have q6 : (((l.length + 1) % 65536 : Nat) : Int) < 65536 := by omega
  have q7 : ((l.length : Int) + 1) % 65536 = (((l.length + 1) % 65536 : Nat) : Int) := by omega
  obtain ⟨n, hn⟩ : ∃ n : Nat, n = (l.length + 1) % 65536 := ⟨_, rfl⟩
  rw [← hn] at q4 q6 q7
  have q8 : c * n < 256 * 65536 := Nat.mul_lt_mul_of_lt_of_lt q5 (by omega)
  have q9 : (c : Int) * (n : Int) = ((c * n : Nat) : Int) := by rw [Int.natCast_mul]
  obtain ⟨p, hp⟩ : ∃ p : Nat, p = c * n := ⟨_, rfl⟩
  rw [← hp] at q8 q9
  rw [q9] at q4
  have n1 : ∀ w, (binOp .mul 111 (C (c : Int) 0) (C 1 (n : Int))).run Tryd.prog w = .ok (C (c : Int) (p : Int)) w := fun w => by
    have := c_mul1 111 (c : Int) (n : Int) (ok53_nat (by omega) (by omega)) (ok53_nat (by omega) (by omega)) (by omega) (by omega) (by rw [q9]; exact ok53_nat (by omega) (by omega))
    rw [this, q9]
    rfl
  have n2 : ∀ w, (binOp .sub 111 (C (a : Int) (b : Int)) (C (c : Int) (p : Int))).run Tryd.prog w = .ok (C ((a : Int) - c) ((b : Int) - p)) w := fun w => by
    rw [c_sub _ _ _ _ _ (ok53_nat (by omega) (by omega)) (ok53_nat (by omega) (by omega)) (ok53_nat (by omega) (by omega)) (ok53_nat (by omega) (by omega)) (ok53_of (by omega) (by omega)) (ok53_of (by omega) (by omega))]
    rfl
  have Hred := Lib.hid (fun w => reduce_calls ((a : Int) - c) ((b : Int) - p) (by omega) (by omega) (by omega) (by omega) w)
  rw [q3, q4] at Hred
  have Ho := Lib.hid ho
  have HB := Lib.hid hB
  have Hne := Lib.hid hne
  have Hb := Lib.hid h0
  have hN : (x :: l).length = l.length + 1 := rfl
  rw [hN] at Hl hc t1
  obtain ⟨N, hN2⟩ : ∃ N, N = l.length + 1 := ⟨_, rfl⟩
  rw [← hN2] at Hl hc t1
  have hNp : 0 < N := by omega
  have hNb : N ≤ 140737488355321 := by omega
  have q7 : (N : Int) % 65536 = (n : Int) := by omega
  have HN := Lib.hid hN2
  have hN0 : ((N : Int) == 0) = false := by rw [beq_eq_false_iff_ne]; omega
  have Q7 := Lib.hid q7
  clear hN hN2 hm
  have Hc1' := Lib.hid hc1
  have N1 := Lib.hid n1
  have N2 := Lib.hid n2
  clear q3 q4 q9 hn hp hcs t3 ho hB hne h0 q7 hc1 n1 n2
  go_enter Tryd.func67, Tryd.ntmps67
  go_wp2_with fail
  refine Hl.out.mono ?_
  rintro e w1 ⟨rfl, rfl⟩
  go_wp2_with fail
  refine CanB.region 1000 (.op 0 2 (.op 1 2 (.op 2 2 (.op 3 1 (.op 4 2 (.op 5 1 (.op 6 2 (.op 7 2 (.op 8 2 (.op 9 1 (.op 10 2 (.op 11 2 (.op 12 2 (.op 13 2 (.nil))))))))))))))) (by kernel_rfl) (by kernel_rfl) ?_
  have Hc0 : Hid (w.drew.cell? ⟨g, 0, none⟩ = some (.slice (some ⟨gb, ob, none⟩) N c0)) := Lib.hid hc
  have Hc1 : Hid (w.drew.cell? ⟨gb, ob, none⟩ = some (.int .u8 (c : Int))) := Lib.hid hb0
  have Hg1 : Hid (g < w.drew.heap.size) := Lib.hid hgl
  have Hg2 : Hid (gb < w.drew.heap.size) := Hgb
  clear hc hb0
  have HBW : Hid (Blk w.drew g 114 _) := HB
  have HoW : Hid (OwnO w.drew base 5 _ _) := Ho
  have HwW := Lib.hid ((Below.refl base w).drew)
  have Hc3 : Hid (w.drew.cell? ⟨g, 1, none⟩ = some (C (a : Int) (b : Int))) := Hc1'
  clear HB Ho Hc1'
  generalize w.drew = W at *
  repeat (first | (refine CanT.skip rfl ?_ (fun K hK => ?_); (focus (go_simp; done)); go_simp; refine hK _ ?_; clear hK K) | (refine CanT.pur rfl ?_ ?_; (focus (go_simp; done)); refine ⟨?_, ?_, ?_⟩; rotate_left; (focus (intro w'; go_simp; rfl)); (focus (intro K hK; go_simp; refine hK _ ?_; clear hK K))) | (refine CanB.cell rfl ?_ (.slice (some ⟨gb, ob, none⟩) N c0) (.slice (some ⟨gb, ob, none⟩) N c0) ⟨g, 0, none⟩ Hc0.out Hg1.out ?_ (fun K hK => ?_); (focus (go_simp; done)); (focus (intro w' hc'; go_simp; (try rfl))); go_simp; refine hK _ ?_; clear hK K) | (refine CanB.cell rfl ?_ (.int .u8 (c : Int)) (.int .u8 (c : Int)) ⟨gb, ob, none⟩ Hc1.out Hg2.out ?_ (fun K hK => ?_); (focus (go_simp; done)); (focus (intro w' hc'; go_simp; (try rfl))); go_simp; refine hK _ ?_; clear hK K))
  have htm : (N : Int).tmod 65536 = (n : Int) := by rw [Int.tmod_eq_emod_of_nonneg (by omega)]; exact Q7.out
  rw [htm]
  refine CanT.done ?_
  have hred := Hred.out
  unfold C at hred
  obtain ⟨X, e1⟩ : ∃ X, X = FL (ha l) := ⟨_, rfl⟩
  obtain ⟨Y, e2⟩ : ∃ Y, Y = FL (hb l) := ⟨_, rfl⟩
  rw [← e1, ← e2] at hred
  have E1 := Lib.hid e1
  have E2 := Lib.hid e2
  have Hred2 : Hid (∀ w, Calls Tryd.prog 81 #[C ((a : Int) - c) ((b : Int) - p)] w fun e w' => e = .returned (.complex .f64 X Y) ∧ w = w') := Lib.hid hred
  clear hred e1 e2 htm Hred q7 Hl Hgb Hc1 Hg2
  go_wp2_with fail
  refine CanB.region 15 (.op 0 2 (.op 1 2 (.op 2 2 (.op 3 2 (.op 4 1 (.op 5 2 (.op 7 2 (.op 8 2 (.op 9 2 (.op 6 0 (.op 10 2 (.op 11 2 (.op 12 0 (.op 13 2 (.op 14 2 (.op 15 0 (.nil))))))))))))))))) (by kernel_rfl) (by kernel_rfl) ?_
  have Hc4 : Hid (W.drew.cell? ⟨g, 1, none⟩ = some (C (a : Int) (b : Int))) := Hc3
  have HBV : Hid (Blk W.drew g 114 _) := HBW
  have HoV : Hid (OwnO W.drew base 5 _ _) := HoW
  have Hg3 : Hid (g < W.drew.heap.size) := Hg1
  have HwV := Lib.hid (HwW.out.drew)
  clear Hc3 HBW HoW Hg1 HwW Hc0
  generalize W.drew = V at *
  repeat (first | (refine CanT.skip rfl ?_ (fun K hK => ?_); (focus (go_simp; done)); go_simp; refine hK _ ?_; clear hK K) | (refine CanT.pur rfl ?_ ?_; (focus (go_simp; done)); refine ⟨?_, ?_, ?_⟩; rotate_left; (focus (intro w'; go_simp; rfl)); (focus (intro K hK; go_simp; refine hK _ ?_; clear hK K))) | (refine CanB.cell rfl ?_ (C (a : Int) (b : Int)) (C (a : Int) (b : Int)) ⟨g, 1, none⟩ Hc4.out Hg3.out ?_ (fun K hK => ?_); (focus (go_simp; done)); (focus (intro w' hc'; go_simp; (try rfl))); go_simp; refine hK _ ?_; clear hK K))
  refine CanT.imp rfl (fun J hJ => ?_)
  go_simp
  refine (one_calls _ _).mono ?_
  rintro e w3 ⟨rfl, rfl⟩
  go_simp
  refine hJ.out _ _ (Below.refl _ _) ?_
  clear hJ J
  have n1 := N1.out
  have n2 := N2.out
  repeat (first | (refine CanT.skip rfl ?_ (fun K hK => ?_); (focus (go_simp; done)); go_simp; refine hK _ ?_; clear hK K) | (refine CanT.pur rfl ?_ ?_; (focus (go_simp; done)); refine ⟨?_, ?_, ?_⟩; rotate_left; (focus (intro w'; go_simp; rfl)); (focus (intro K hK; go_simp; refine hK _ ?_; clear hK K))))
  clear n1 n2
  refine CanT.imp rfl (fun J hJ => ?_)
  go_simp
  refine (Hred2.out _).mono ?_
  rintro e w3 ⟨rfl, rfl⟩
  go_simp
  refine hJ.out _ _ (Below.refl _ _) ?_
  clear hJ J
  repeat (first | (refine CanT.skip rfl ?_ (fun K hK => ?_); (focus (go_simp; done)); go_simp; refine hK _ ?_; clear hK K) | (refine CanT.pur rfl ?_ ?_; (focus (go_simp; done)); refine ⟨?_, ?_, ?_⟩; rotate_left; (focus (intro w'; go_simp; rfl)); (focus (intro K hK; go_simp; refine hK _ ?_; clear hK K))))
  have hc5 := Hc4.out
  have hf5 := Blk.frozen HBV.out 1
  refine CanT.last rfl (fun J hJ => ?_)
  go_simp
  refine hJ.out _ _ ?_
  clear hJ J hc5 hf5
  have hB6 : Blk (V.setCell ⟨g, 1, none⟩ (.complex .f64 X Y)) g 114 #[.slice (some ⟨gb, ob, none⟩) N c0, .complex .f64 X Y] := by
    have := Blk.set_ HBV.out 1 (.complex .f64 X Y)
    rw [show (x :: l).length = N by rw [HN.out]; rfl] at this
    exact this
  have hO6 := HoV.out.far (p := ⟨g, 1, none⟩) Hne.out (.complex .f64 X Y)
  have hO7 := hO6.drop 1 (by simp)
  have hne := Hne.out
  rw [show (x :: l).length = N by rw [HN.out]; rfl] at hO7
  simp only [List.drop_succ_cons, List.drop_zero] at hO7
  have hc5 : (V.setCell ⟨g, 1, none⟩ (.complex .f64 X Y)).cell? ⟨g, 0, none⟩ = some (.slice (some ⟨gb, ob, none⟩) N c0) := Blk.cell hB6 0
  have hf5 := Blk.frozen hB6 0
  have HB6 := Lib.hid hB6
  have HO7 := Lib.hid hO7
  have HB7 := Lib.hid (HwV.out.setCell (p := ⟨g, 1, none⟩) Hb.out (.complex .f64 X Y))
  have Hgne : Hid (gb ≠ g) := Lib.hid (fun e => hne (by rw [← e]; rfl))
  clear hB6 hO6 hO7 hne
  generalize V.setCell ⟨g, 1, none⟩ (.complex .f64 X Y) = V2 at *
  have z1 : (1 : Int) ≤ (N : Int) := by omega
  have z2 : (1 : Int) ≤ (c0 : Int) := by omega
  refine CanT.done ?_
  have HNN := Lib.hid (show N - 1 = l.length by rw [HN.out]; omega)
  clear HN hN0
  by_cases hc1 : c0 = 1
  · rw [if_pos hc1] at HO7
    go_wp2_with fail
    go_ret2
    subst hc1
    exact ⟨rfl, out_fin Hb.out HB6.out HO7.out (by intro e; injection e with e; exact Hgne.out e) E1.out E2.out, HB7.out.setCell (p := ⟨g, 0, none⟩) Hb.out _⟩
  · rw [if_neg hc1] at HO7
    go_wp2_with fail
    go_ret2
    simp only [Option.map_some, add_lit_] at HO7
    exact ⟨rfl, out_fin Hb.out HB6.out HO7.out (by intro e; injection e with e; exact Hgne.out e) E1.out E2.out, HB7.out.setCell (p := ⟨g, 0, none⟩) Hb.out _⟩
set_option maxRecDepth 100000 in
set_option maxHeartbeats 1000000 in
theorem roll_none {w : World} {base g : Nat} (h : IsW w base g []) (y : Int) : Calls Tryd.prog 36 #[.pointer (some ⟨g, 0, none⟩), .int .u8 y] w fun e w' => e = .returned (.bool false) ∧ w = w' := by
  have H := Lib.hid (out_none h)
  clear h
  go_enter Tryd.func36, Tryd.ntmps36
  go_wp2_with fail
  refine H.out.mono ?_
  rintro e w1 ⟨rfl, rfl⟩
  go_wp2_with fail
  go_ret
  exact ⟨rfl, rfl⟩
set_option maxRecDepth 100000 in
set_option maxHeartbeats 1000000 in
theorem roll_calls {w : World} {base g : Nat} {x : UInt8} {l : List UInt8} (h : IsW w base g (x :: l)) (y : UInt8) (hm : l.length ≤ 140737488355320) : Calls Tryd.prog 36 #[.pointer (some ⟨g, 0, none⟩), .int .u8 (y.toNat : Int)] w
    fun e w' => e = .returned (.bool true) ∧ IsW w' base g (l ++ [y]) ∧ Below base w w' := by
  have H := Lib.hid (out_calls h hm)
  clear h
  go_enter Tryd.func36, Tryd.ntmps36
  go_wp2_with fail
  refine H.out.mono ?_
  rintro e w1 ⟨rfl, h1, hb1⟩
  have H1 := Lib.hid (in_calls h1 y hm)
  have HB1 := Lib.hid hb1
  clear h1 hb1
  go_wp2_with fail
  refine H1.out.mono ?_
  rintro e w2 ⟨rfl, h2, hb2⟩
  have H2 := Lib.hid h2
  have HB2 := Lib.hid (HB1.out.trans hb2)
  clear h2 hb2
  go_wp2_with fail
  go_ret
  exact ⟨rfl, H2.out, HB2.out⟩
section
variable (w : World)
set_option maxHeartbeats 400000 in
theorem in_nil (y : Int) : Calls Tryd.prog 68 #[.pointer none, .int .u8 y] w fun e w' => e = .returned (.tuple #[]) ∧ w = w' := by
  go_enter Tryd.func68, Tryd.ntmps68
  go_wp2_with fail
  exact bodyPost_ret (results_none rfl _ _ _) rfl ⟨rfl, rfl⟩
set_option maxHeartbeats 400000 in
theorem sum_nil : Calls Tryd.prog 33 #[.pointer none] w fun e w' => e = .returned (.int .u32 0) ∧ w = w' := by
  go_enter Tryd.func33, Tryd.ntmps33
  go_wp2_with fail
  go_ret
  exact ⟨rfl, rfl⟩
set_option maxHeartbeats 400000 in
theorem len_nil : Calls Tryd.prog 80 #[.pointer none] w fun e w' => e = .returned (.int .i64 0) ∧ w = w' := by
  go_enter Tryd.func80, Tryd.ntmps80
  go_wp2_with fail
  go_ret
  exact ⟨rfl, rfl⟩
set_option maxRecDepth 100000 in
set_option maxHeartbeats 400000 in
theorem out_nil : Calls Tryd.prog 67 #[.pointer none] w fun e w' => e = .returned (.tuple #[.int .u8 0, .bool false]) ∧ w = w' := by
  go_enter Tryd.func67, Tryd.ntmps67
  go_wp2_with fail
  refine (len_nil _).mono ?_
  rintro e w1 ⟨rfl, rfl⟩
  go_wp2_with fail
  go_ret2
  exact ⟨rfl, rfl⟩
set_option maxRecDepth 100000 in
set_option maxHeartbeats 400000 in
theorem roll_nil (y : Int) : Calls Tryd.prog 36 #[.pointer none, .int .u8 y] w fun e w' => e = .returned (.bool false) ∧ w = w' := by
  go_enter Tryd.func36, Tryd.ntmps36
  go_wp2_with fail
  refine (out_nil _).mono ?_
  rintro e w1 ⟨rfl, rfl⟩
  go_wp2_with fail
  go_ret
  exact ⟨rfl, rfl⟩
end
end Ro
end Go.Proofs.YtiofkhjpknfkgaaDoor

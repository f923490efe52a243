/- Bytes that a call owns, anywhere in a block of their own: what is cut off in front stays behind the address; append has room behind, or moves. -/
import Derived.Test.YtcbkhbnemhkheaaSbase
import Derived.Deep.AppendSrc
namespace Go.Proofs.Ytcbkhbnemhkheaa
namespace Ba
open Go.RowKit Sm
set_option linter.unusedVariables false
def OwnO (w : World) (base : Nat) (E : TypeId) (v : Value) (l : List UInt8) : Prop :=
  (l = [] ∧ ∃ A, v = .slice A 0 0) ∨
  ∃ g o c cs, v = .slice (some ⟨g, o, none⟩) l.length c ∧ base ≤ g ∧ Blk w g E cs ∧ cs.size = o + c ∧ c ≤ 9223372036854775807 ∧ l.length ≤ c ∧ ∀ j, j < l.length → cs[o + j]? = some (bv (l.getD j 0))
section
variable {w w' : World} {base : Nat} {E : TypeId} {v : Value} {l : List UInt8}
theorem OwnO.of_own (h : OwnB w base E v l) : OwnO w base E v l := by
  obtain ⟨hl, ⟨rfl, hn⟩ | ⟨g, cap, cur, rfl, hb, hg, hc, hm, hs, ht⟩⟩ := h
  · exact .inl ⟨List.eq_nil_of_length_eq_zero hn, none, rfl⟩
  · refine .inr ⟨g, 0, cap, cur, rfl, hb, hg, by omega, by unfold maxLen at hm; omega, hc, fun j hj => ?_⟩
    have h1 := bvs_get l j hj
    rw [← ht] at h1
    rw [Nat.zero_add]
    rw [List.getElem?_take_of_lt (by omega)] at h1
    rw [← Array.getElem?_toList]
    exact h1
theorem OwnO.opens (h : OwnO w base E v l) : ∃ A c, v = .slice A l.length c ∧ l.length ≤ c ∧ c ≤ 9223372036854775807 ∧ ReadB w w.heap.size A l := by
  obtain ⟨rfl, A, rfl⟩ | ⟨g, o, c, cs, rfl, hb, hB, hs, hm, hc, hcs⟩ := h
  · exact ⟨A, 0, rfl, Nat.le_refl _, by omega, ReadB.nil⟩
  · refine ⟨_, c, rfl, hc, hm, fun _ => ⟨g, o, rfl, hB.lt, fun k hk => ?_⟩⟩
    rw [Blk.cell hB, hcs k hk]
    rfl
theorem OwnO.kept {row : Option Nat} (h : OwnO w base E v l) (hg : w.grownBy w' row) (hne : v.ownBlock = none ∨ v.ownBlock ≠ row) : OwnO w' base E v l := by
  obtain h | ⟨g, o, c, cs, rfl, hb, hB, rest⟩ := h
  · exact .inl h
  · refine .inr ⟨g, o, c, cs, rfl, hb, hB.grown hg ?_, rest⟩
    rcases hne with h | h
    · cases h
    · exact h
theorem OwnO.keptB (h : OwnO w base E v l) (hb : Below w.heap.size w w') : OwnO w' base E v l := by
  obtain h | ⟨g, o, c, cs, rfl, hbb, hB, rest⟩ := h
  · exact .inl h
  · exact .inr ⟨g, o, c, cs, rfl, hbb, hB.below hb hB.lt, rest⟩
theorem OwnO.far (h : OwnO w base E v l) {p : Addr} (hp : v.ownBlock ≠ some p.block) (u : Value) : OwnO (w.setCell p u) base E v l := by
  obtain h | ⟨g, o, c, cs, rfl, hbb, hB, rest⟩ := h
  · exact .inl h
  · exact .inr ⟨g, o, c, cs, rfl, hbb, hB.far (fun e => hp (by rw [← e]; rfl)) u, rest⟩
theorem OwnO.weak {b2 : Nat} (h : OwnO w base E v l) (hb : b2 ≤ base) : OwnO w b2 E v l := by
  obtain h | ⟨g, o, c, cs, rfl, hbb, rest⟩ := h
  · exact .inl h
  · exact .inr ⟨g, o, c, cs, rfl, by omega, rest⟩
theorem OwnO.ne_blk {g : Nat} {t : TypeId} {cs : Array Value} (h : OwnO w base E v l) (hl : 0 < l.length) (hB : Blk w g t cs) (hne : E ≠ t) : v.ownBlock ≠ some g := by
  obtain ⟨rfl, _⟩ | ⟨g', o, c, cs', rfl, hbb, hB', rest⟩ := h
  · simp at hl
  · intro e
    injection e with e
    exact Blk.ne_ hB' hB hne e
/-- the first k bytes are cut off -/
theorem OwnO.drop {A : Option Addr} {n c : Nat} (h : OwnO w base E (.slice A n c) l) (k : Nat) (hk : k ≤ l.length) : OwnO w base E (.slice (if c = k then A else A.map (·.add k)) (n - k) (c - k)) (l.drop k) := by
  obtain ⟨rfl, A', e⟩ | ⟨g, o, c', cs, e, hbb, hB, hs, hm, hc, hcs⟩ := h
  · injection e with e1 e2 e3
    subst e1 e2 e3
    exact .inl ⟨by simp, (if 0 = k then A else A.map (·.add k)), by simp⟩
  · injection e with e1 e2 e3
    subst e1 e2 e3
    by_cases hck : c = k
    · subst hck
      have : l.length = c := by omega
      exact .inl ⟨by rw [List.drop_eq_nil_iff]; omega, _, by rw [show l.length - c = 0 by omega, Nat.sub_self]⟩
    · rw [if_neg hck]
      refine .inr ⟨g, o + k, c - k, cs, by rw [List.length_drop, Option.map_some, add_lit_], hbb, hB, by omega, by omega, by rw [List.length_drop]; omega, fun j hj => ?_⟩
      rw [List.length_drop] at hj
      rw [Nat.add_assoc, hcs (k + j) (by omega)]
      simp [List.getD]
end
section
variable {P : Program} (w : World)
theorem src_bytes {E t : TypeId} {B : Nat} {A : Option Addr} {c : Nat} {r : List UInt8} (ht : P.underlying t = some (.slice E)) (hr : ReadB w B A r) : Src P 1 t (.slice A r.length c) r.length (bvs r) w := by
  have hd := hr.reads
  rcases A with _ | ad
  · have h0 : r = [] := by
      rcases Nat.eq_zero_or_pos r.length with h | h
      · exact List.eq_nil_of_length_eq_zero h
      · obtain ⟨_, _, e, _⟩ := hr h
        cases e
    subst h0
    exact Src.ofNil w ht c
  · refine Src.ofSlice w ht ad r.length c (bvs r) (by rw [bvs_length, Nat.mul_one]) (fun j u hu => ?_) (bvs_one r)
    have hjl : j < r.length := by have := (List.getElem?_eq_some_iff.1 hu).1; rwa [bvs_length] at this
    obtain ⟨ad', e, _, hc⟩ := hd.2 (by omega)
    injection e with e
    subst e
    exact hc j u hu
theorem run_appO (base : Nat) (t ty E : TypeId) (i : TypeInfo) (ht : P.underlying t = some (.slice E)) (hi : IsByte P E i) (v : Value) (l : List UInt8) (hown : OwnO w base E v l)
    (B : Nat) (A : Option Addr) (c : Nat) (r : List UInt8) (hr : ReadB w B A r) (hbytes : l.length + r.length ≤ 140737488355328) (hbase : base ≤ w.heap.size) :
    ∃ v' w', (Builtin.append_ #[t, t] ty #[v, .slice A r.length c]).run P w = .ok v' w' ∧ OwnO w' base E v' (l ++ r) ∧ w.grownBy w' v.ownBlock ∧ (v'.ownBlock = v.ownBlock ∨ v'.ownBlock = some w.heap.size) ∧ Below base w w' := by
  obtain ⟨hi1, hz, hsz, hby⟩ := hi
  have hsrc := src_bytes (P := P) (c := c) w ht hr
  have hgrow : ∀ (A0 : Option Addr) (n0 c0 : Nat) (hn : n0 = l.length) (hcr : c0 < n0 + r.length) (hold : (Builtin.firstCells i.size n0 (.slice A0 n0 c0)).run P w.drew = .ok (bvs l).toArray w.drew),
      ∃ v' w', (Builtin.append_ #[t, t] ty #[.slice A0 n0 c0, .slice A r.length c]).run P w = .ok v' w' ∧ OwnO w' base E v' (l ++ r) ∧ w.grownBy w' (Value.slice A0 n0 c0).ownBlock ∧ (v'.ownBlock = (Value.slice A0 n0 c0).ownBlock ∨ v'.ownBlock = some w.heap.size) ∧ Below base w w' := by
    intro A0 n0 c0 hn hcr hold
    subst hn
    have hrun := run_append_grow_src (P := P) w t t ty E i _ ht hi1 hz A0 l.length c0 (bvs l) hold (.slice A r.length c) r.length (bvs r) (by rw [hsz]; exact hsrc) hcr (by omega) (growslice_fits hcr (by rw [hby, Nat.mul_one]; exact hbytes))
    have hge := grownCap_ge w (l.length + r.length) c0 E
    have hcm : grownCap w (l.length + r.length) c0 E ≤ maxLen := grownCap_le_maxLen w (l.length + r.length) c0 E (by unfold maxLen; omega)
    have hbel : Below base w (w.drew.alloc (.cells ((bvs l ++ bvs r).toArray ++ Builtin.zeroCells (Value.int .u8 0).cells (grownCap w (l.length + r.length) c0 E - (l.length + r.length))) E)) := ((Below.refl base w).drew).alloc hbase _
    refine ⟨_, _, hrun, .inr ⟨w.heap.size, 0, _, _, by rw [List.length_append], hbase, heap_alloc_new w.drew _, ?_, by unfold maxLen at hcm; exact hcm, by rw [List.length_append]; exact hge, fun j hj => ?_⟩, ⟨rfl, rfl, rfl, by simp, fun k hk _ => Below.heap_alloc w.drew _ k hk⟩, .inr rfl, hbel⟩
    · simp only [Array.size_append, List.size_toArray, size_zeroCells, List.length_append, bvs_length, show (Value.int .u8 0).cells.size = 1 from rfl]
      omega
    · rw [Nat.zero_add, ← bvs_append]
      rw [Array.getElem?_append_left (by rw [List.size_toArray, bvs_length]; exact hj), List.getElem?_toArray]
      exact bvs_get _ j hj
  obtain ⟨rfl, A0, rfl⟩ | ⟨g, o, c0, cs, rfl, hb, hB, hs, hm, hc, hcs⟩ := hown
  · by_cases h0 : r.length = 0
    · have hr0 : r = [] := List.eq_nil_of_length_eq_zero h0
      subst hr0
      refine ⟨.slice A0 0 0, w, ?_, .inl ⟨rfl, A0, rfl⟩, World.grownBy.refl w _, .inl rfl, Below.refl _ _⟩
      have hx : (Builtin.firstCells 1 0 (.slice A 0 c)).run P w = .ok #[] w := hsrc.cells
      rcases A0 with _ | a0 <;> simp [Builtin.append_, run_underlying ht, sizeOf, typeInfo, hi1, Builtin.lenOf, hsz, hx, storeCells]
    · refine hgrow A0 0 0 rfl (by omega) ?_
      rcases A0 with _ | a0 <;> simp [Builtin.firstCells, bvs, loadCells, loadCellsFrom]
  · by_cases hroom : l.length + r.length ≤ c0
    · have hrun := run_append_room_src (P := P) w t t ty E i ht hi1 g o l.length c0 (.slice A r.length c) r.length (bvs r) (by rw [hsz]; exact hsrc) hroom
        (fun j hj => by
          rw [bvs_length] at hj
          rw [hsz, Nat.mul_one, Blk.cell hB, Array.getElem?_eq_getElem (by omega)]
          rfl)
        (fun j hj => Blk.frozen hB _)
      rw [hsz, Nat.mul_one] at hrun
      have hdec : cs = (cs.toList.take (o + l.length) ++ ((cs.toList.drop (o + l.length)).take r.length ++ cs.toList.drop (o + l.length + r.length))).toArray := by
        apply Array.ext'
        have e : cs.toList.drop (o + l.length + r.length) = (cs.toList.drop (o + l.length)).drop r.length := by rw [List.drop_drop]
        rw [e, List.take_append_drop, List.take_append_drop]
      have hcl : cs.toList.length = cs.size := Array.length_toList
      have hpl : (cs.toList.take (o + l.length)).length = o + l.length := by rw [List.length_take, hcl]; omega
      have hol : ((cs.toList.drop (o + l.length)).take r.length).length = (bvs r).length := by rw [List.length_take, List.length_drop, hcl, bvs_length]; omega
      have hB2 : Blk w g E (cs.toList.take (o + l.length) ++ ((cs.toList.drop (o + l.length)).take r.length ++ cs.toList.drop (o + l.length + r.length))).toArray := by rw [← hdec]; exact hB
      have hB3 := Blk.setCells (bvs r) _ _ _ hB2 hol
      rw [hpl] at hB3
      have hgr := only_setCells w g (o + l.length) (bvs r)
      refine ⟨_, _, hrun, .inr ⟨g, o, c0, _, by rw [List.length_append], hb, hB3, ?_, hm, by rw [List.length_append]; exact hroom, fun j hj => ?_⟩, hgr, .inl rfl, below_of_only hgr hb hbase⟩
      · simp only [List.size_toArray, List.length_append, hpl, bvs_length, List.length_drop, hcl]
        omega
      · rw [List.getElem?_toArray]
        rw [List.length_append] at hj
        rcases Nat.lt_or_ge j l.length with h1 | h1
        · rw [List.getElem?_append_left (by rw [hpl]; omega), List.getElem?_take_of_lt (by omega), Array.getElem?_toList, hcs j h1]
          simp [List.getD, List.getElem?_append_left h1]
        · rw [List.getElem?_append_right (by rw [hpl]; omega), hpl, List.getElem?_append_left (by rw [bvs_length]; omega), show o + j - (o + l.length) = j - l.length by omega, bvs_get r _ (by omega)]
          simp [List.getD, List.getElem?_append_right h1, bv]
    · refine hgrow (some ⟨g, o, none⟩) l.length c0 rfl (by omega) ?_
      rw [hsz]
      refine run_firstCells_some w.drew 1 l.length ⟨g, o, none⟩ l.length c0 (bvs l) (by rw [bvs_length, Nat.mul_one]) (fun j u hu => ?_)
      have hjl : j < l.length := by have := (List.getElem?_eq_some_iff.1 hu).1; rwa [bvs_length] at this
      rw [add_lit_]
      show w.cell? _ = _
      rw [Blk.cell hB, hcs j hjl, ← hu, bvs_get l j hjl]
      rfl
theorem wp_appO {o : Oper} {a : Act} {K : Act → World → Prop} {Q : Exit → Act → World → Prop} (s x : Operand) (t : TypeId)
    (ho : o.op = .call { callee := .builtin .append, args := #[s, x], argTypes := #[t, t] })
    (base : Nat) (E : TypeId) (i : TypeInfo) (ht : P.underlying t = some (.slice E)) (hi : IsByte P E i)
    (v : Value) (l : List UInt8) (hs : a.eval s = v) (hown : OwnO w base E v l)
    (B : Nat) (A : Option Addr) (m c : Nat) (r : List UInt8) (hx : a.eval x = .slice A m c) (hm : m = r.length) (hr : ReadB w B A r)
    (hbytes : l.length + r.length ≤ 140737488355328) (hbase : base ≤ w.heap.size)
    (h : ∀ v' w', OwnO w' base E v' (l ++ r) → w.grownBy w' v.ownBlock → (v'.ownBlock = v.ownBlock ∨ v'.ownBlock = some w.heap.size) → Below base w w' → K (a.put o.dst v') w') : o.wp P a w K Q := by
  subst hm
  obtain ⟨v', w', hrun, h2, h3, h4, h5⟩ := run_appO (P := P) w base t o.type E i ht hi v l hown B A c r hr hbytes hbase
  unfold Oper.wp execOp
  simp only [ho, resolve, invoke, builtin, Sem.run_bind, Sem.run_pure, Result.andThen_ok, List.map_toArray, List.map_cons, List.map_nil, hs, hx, hrun]
  exact h v' w' h2 h3 h4 h5
theorem wpList_appO {ops : Array Oper} {rest : List Oper} {o : Oper} {a : Act} {Q : Exit → Act → World → Prop} (hgd : o.guard = none) (s x : Operand) (t : TypeId)
    (ho : o.op = .call { callee := .builtin .append, args := #[s, x], argTypes := #[t, t] })
    (base : Nat) (E : TypeId) (i : TypeInfo) (ht : P.underlying t = some (.slice E)) (hi : IsByte P E i)
    (v : Value) (l : List UInt8) (hs : a.eval s = v) (hown : OwnO w base E v l)
    (B : Nat) (A : Option Addr) (m c : Nat) (r : List UInt8) (hx : a.eval x = .slice A m c) (hm : m = r.length) (hr : ReadB w B A r)
    (hbytes : l.length + r.length ≤ 140737488355328) (hbase : base ≤ w.heap.size)
    (h : ∀ v' w', OwnO w' base E v' (l ++ r) → w.grownBy w' v.ownBlock → (v'.ownBlock = v.ownBlock ∨ v'.ownBlock = some w.heap.size) → Below base w w' → wpList P ops Q rest (a.put o.dst v') w') : wpList P ops Q (o :: rest) a w :=
  wpList_plain hgd fun _ hK => wp_appO w s x t ho base E i ht hi v l hs hown B A m c r hx hm hr hbytes hbase fun v' w' h2 h3 h4 h5 => hK _ _ (h v' w' h2 h3 h4 h5)
end
end Ba
end Go.Proofs.Ytcbkhbnemhkheaa

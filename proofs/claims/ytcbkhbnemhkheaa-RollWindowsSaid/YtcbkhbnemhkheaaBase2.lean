/- More words for memory: slices of slices of bytes, strings appended, new zeros, a struct behind a pointer. -/
import Derived.Test.YtcbkhbnemhkheaaBase
import Derived.Lib.AppendZeros
namespace Go.Proofs.Ytcbkhbnemhkheaa
namespace Ba
open Go.RowKit
set_option linter.unusedVariables false
attribute [go_sem] S_size

/-- a slice whose elements are slices that read as lists of bytes -/
def ReadBB (w : World) (B : Nat) (A : Option Addr) (ps : List (List UInt8)) : Prop :=
  0 < ps.length → ∃ b o, A = some ⟨b, o, none⟩ ∧ b < B ∧ ∀ k, k < ps.length → ∃ Ak ck, w.cell? ⟨b, o + k, none⟩ = some (.slice Ak (ps.getD k []).length ck) ∧ (ps.getD k []).length ≤ ck ∧ ck ≤ 9223372036854775807 ∧ ReadB w B Ak (ps.getD k [])
section
variable {w w' : World} {B B' : Nat} {A : Option Addr} {l : List UInt8} {ps : List (List UInt8)} {E : TypeId} {v : Value} {base : Nat}
theorem ReadBB.keep (h : ReadBB w B A ps) (hk : ∀ p : Addr, p.block < B → w'.cell? p = w.cell? p) : ReadBB w' B A ps := fun hn => by
  obtain ⟨b, o, e, hb, hc⟩ := h hn
  refine ⟨b, o, e, hb, fun k hkk => ?_⟩
  obtain ⟨Ak, ck, h1, h2, h3, h4⟩ := hc k hkk
  exact ⟨Ak, ck, (hk ⟨b, o + k, none⟩ hb).trans h1, h2, h3, h4.keep hk⟩
theorem ReadBB.below (h : ReadBB w B A ps) (hb : Below B w w') : ReadBB w' B A ps := h.keep fun _ hp => hb.cell hp
theorem ReadBB.more (h : ReadBB w B A ps) (hB : B ≤ B') : ReadBB w B' A ps := fun hn => by
  obtain ⟨b, o, e, hb, hc⟩ := h hn
  refine ⟨b, o, e, Nat.lt_of_lt_of_le hb hB, fun k hkk => ?_⟩
  obtain ⟨Ak, ck, h1, h2, h3, h4⟩ := hc k hkk
  exact ⟨Ak, ck, h1, h2, h3, h4.more hB⟩
theorem ReadBB.nil : ReadBB w B A [] := fun h => absurd h (by simp)
theorem ReadB.setFar (h : ReadB w B A l) {p : Addr} (hp : B ≤ p.block) (u : Value) : ReadB (w.setCell p u) B A l := h.keep fun q hq => World.cell?_setCell_other w p q u (fun e => by subst e; omega)
theorem ReadB.alloc (h : ReadB w B A l) (hB : B ≤ w.heap.size) (o : Obj) : ReadB (w.alloc o) B A l := h.below ((Below.refl B w).alloc hB o)
theorem ReadB.drew (h : ReadB w B A l) : ReadB w.drew B A l := h
theorem OwnB.setFar (h : OwnB w base E v l) {p : Addr} (hp : p.block < base) (u : Value) : OwnB (w.setCell p u) base E v l := ownsRow_setCell_below h hp u
theorem OwnB.grown {row : Option Nat} (h : OwnB w base E v l) (hg : w.grownBy w' row) (hne : v.ownBlock = none ∨ v.ownBlock ≠ row) : OwnB w' base E v l := World.ownsRow.kept h hg hne
end
theorem ReadBB.lit (w : World) (E : TypeId) (vs : List Value) (ps : List (List UInt8)) (B g : Nat) (hg : g = w.heap.size) (hB : B ≤ w.heap.size)
    (h : ∀ k, k < ps.length → ∃ Ak ck, vs[k]? = some (.slice Ak (ps.getD k []).length ck) ∧ (ps.getD k []).length ≤ ck ∧ ck ≤ 9223372036854775807 ∧ ReadB w B Ak (ps.getD k [])) :
    ReadBB (w.alloc (.cells vs.toArray E)) (g + 1) (some ⟨g, 0, none⟩) ps := by
  subst hg
  intro _
  refine ⟨w.heap.size, 0, rfl, by omega, fun k hk => ?_⟩
  obtain ⟨Ak, ck, h1, h2, h3, h4⟩ := h k hk
  refine ⟨Ak, ck, ?_, h2, h3, (h4.below ((Below.refl B w).alloc hB _)).more (by omega)⟩
  rw [cell_of_row _ w.heap.size (0 + k) vs.toArray E (0, 0) (heap_alloc_new w _), Nat.zero_add, ← h1]
  simp
theorem ReadBB.lit1 (w : World) (E : TypeId) (A1 : Option Addr) (n1 c1 : Nat) (p1 : List UInt8) (B g : Nat) (hg : g = w.heap.size) (hB : B ≤ w.heap.size) (e1 : n1 = p1.length) (h1 : ReadB w B A1 p1) (l1 : p1.length ≤ c1) (m1 : c1 ≤ 9223372036854775807) :
    ReadBB (w.alloc (.cells #[.slice A1 n1 c1] E)) (g + 1) (some ⟨g, 0, none⟩) [p1] := by
  subst e1
  refine ReadBB.lit w E [.slice A1 p1.length c1] [p1] B g hg hB fun k hk => ?_
  have : k = 0 := by simp at hk; omega
  subst this
  exact ⟨A1, c1, rfl, l1, m1, h1⟩
theorem ReadBB.lit2 (w : World) (E : TypeId) (A1 A2 : Option Addr) (n1 c1 n2 c2 : Nat) (p1 p2 : List UInt8) (B g : Nat) (hg : g = w.heap.size) (hB : B ≤ w.heap.size) (e1 : n1 = p1.length) (e2 : n2 = p2.length) (h1 : ReadB w B A1 p1) (h2 : ReadB w B A2 p2) (l1 : p1.length ≤ c1) (l2 : p2.length ≤ c2) (m1 : c1 ≤ 9223372036854775807) (m2 : c2 ≤ 9223372036854775807) :
    ReadBB (w.alloc (.cells #[.slice A1 n1 c1, .slice A2 n2 c2] E)) (g + 1) (some ⟨g, 0, none⟩) [p1, p2] := by
  subst e1 e2
  refine ReadBB.lit w E [.slice A1 p1.length c1, .slice A2 p2.length c2] [p1, p2] B g hg hB fun k hk => ?_
  have : k = 0 ∨ k = 1 := by simp at hk; omega
  rcases this with rfl | rfl
  · exact ⟨A1, c1, rfl, l1, m1, h1⟩
  · exact ⟨A2, c2, rfl, l2, m2, h2⟩
theorem ReadBB.lit3 (w : World) (E : TypeId) (A1 A2 A3 : Option Addr) (n1 c1 n2 c2 n3 c3 : Nat) (p1 p2 p3 : List UInt8) (B g : Nat) (hg : g = w.heap.size) (hB : B ≤ w.heap.size) (e1 : n1 = p1.length) (e2 : n2 = p2.length) (e3 : n3 = p3.length) (h1 : ReadB w B A1 p1) (h2 : ReadB w B A2 p2) (h3 : ReadB w B A3 p3) (l1 : p1.length ≤ c1) (l2 : p2.length ≤ c2) (l3 : p3.length ≤ c3) (m1 : c1 ≤ 9223372036854775807) (m2 : c2 ≤ 9223372036854775807) (m3 : c3 ≤ 9223372036854775807) :
    ReadBB (w.alloc (.cells #[.slice A1 n1 c1, .slice A2 n2 c2, .slice A3 n3 c3] E)) (g + 1) (some ⟨g, 0, none⟩) [p1, p2, p3] := by
  subst e1 e2 e3
  refine ReadBB.lit w E [.slice A1 p1.length c1, .slice A2 p2.length c2, .slice A3 p3.length c3] [p1, p2, p3] B g hg hB fun k hk => ?_
  have : k = 0 ∨ k = 1 ∨ k = 2 := by simp at hk; omega
  rcases this with rfl | rfl | rfl
  · exact ⟨A1, c1, rfl, l1, m1, h1⟩
  · exact ⟨A2, c2, rfl, l2, m2, h2⟩
  · exact ⟨A3, c3, rfl, l3, m3, h3⟩
/-- written-out bytes in a new block -/
theorem ReadB.litN (w : World) (E : TypeId) (vs : List Value) (l : List UInt8) (g : Nat) (hg : g = w.heap.size) (h : vs = bvs l) : ReadB (w.alloc (.cells vs.toArray E)) (g + 1) (some ⟨g, 0, none⟩) l := by
  subst hg h
  intro _
  refine ⟨w.heap.size, 0, rfl, by omega, fun k hk => ?_⟩
  rw [cell_of_row _ w.heap.size (0 + k) (bvs l).toArray E (0, 0) (heap_alloc_new w _), Nat.zero_add, ← bvs_get l k hk]
  simp
theorem S_data (s : ByteArray) : S s.data.toList = s := by cases s; rfl
theorem strCells_S (r : List UInt8) : Lib.strCells (S r) = bvs r := rfl
theorem bvs_rep (n : Nat) : bvs (List.replicate n 0) = List.replicate n (.int .u8 0) := by simp [bvs, bv]

theorem wpList_appS {P : Program} (w : World) {ops : Array Oper} {rest : List Oper} {o : Oper} {a : Act} {Q : Exit → Act → World → Prop} (hgd : o.guard = none) (sl x : Operand) (t u : TypeId)
    (ho : o.op = .call { callee := .builtin .append, args := #[sl, x], argTypes := #[t, u] })
    (base : Nat) (E : TypeId) (i : TypeInfo) (ht : P.underlying t = some (.slice E)) (hu : P.underlying u = some .string) (hi : IsByte P E i)
    (v : Value) (l : List UInt8) (hs : a.eval sl = v) (hown : OwnB w base E v l) (r : List UInt8) (hx : a.eval x = .string (S r))
    (hbytes : l.length + r.length ≤ 140737488355328) (hbase : base ≤ w.heap.size)
    (h : ∀ v' w', OwnB w' base E v' (l ++ r) → w.grownBy w' v.ownBlock → Below base w w' → wpList P ops Q rest (a.put o.dst v') w') : wpList P ops Q (o :: rest) a w := by
  refine Lib.wpList_append_own_string w hgd sl x t u ho base E i ht hu hi.1 hi.2.1 hi.2.2.1 hi.2.2.2 v l.length (bvs l) hs hown (S r) hx (by rw [S_size]; unfold maxLen; omega) (by rw [S_size]; omega) hbase ?_
  intro v' w' h1 h2 _
  refine h v' w' ?_ h2 ((Below.refl base w).grown h2 hbase (fun k hk => (World.ownsRow.lt hown k hk).1))
  unfold OwnB
  rw [List.length_append, bvs_append, ← strCells_S]
  have := h1
  rw [S_size] at this
  exact this

/-- only block g, and what is new, has turned -/
theorem only_trans {a b c : World} {row : Option Nat} (h : a.grownBy b row) (k : b.grownBy c row) : a.grownBy c row :=
  ⟨k.os.trans h.os, k.tape.trans h.tape, k.output.trans h.output, Nat.le_trans h.size k.size, fun i hi hne => (k.block i (Nat.lt_of_lt_of_le hi h.size) hne).trans (h.block i hi hne)⟩
theorem only_of_below {a w : World} (h : Below a.heap.size a w) (row : Option Nat) : a.grownBy w row := ⟨h.os, h.tape, h.output, h.size, fun i hi _ => h.block i hi⟩
theorem only_set (w : World) (g k : Nat) (u : Value) : w.grownBy (w.setCell ⟨g, k, none⟩ u) (some g) :=
  ⟨rfl, rfl, rfl, by simp [World.setCell], fun i hi hne => Below.heap_setCell w ⟨g, k, none⟩ u i (fun e => hne (by simp at e; rw [e]))⟩
theorem below_of_only {B : Nat} {a w : World} {g : Nat} (h : a.grownBy w (some g)) (hB : B ≤ g) (hs : B ≤ a.heap.size) : Below B a w :=
  ⟨h.os, h.tape, h.output, h.size, fun i hi => h.block i (by omega) (by simp; omega)⟩
theorem ReadB.only {w w' : World} {B : Nat} {A : Option Addr} {l : List UInt8} {g : Nat} (h : ReadB w B A l) (hg : w.grownBy w' (some g)) (hB : B ≤ g) (hs : B ≤ w.heap.size) : ReadB w' B A l := h.below (below_of_only hg hB hs)
theorem bcell {W w1 : World} (hb : Below W.heap.size W w1) : (∀ b o, b < W.heap.size → w1.cell? ⟨b, o, none⟩ = W.cell? ⟨b, o, none⟩) ∧ (∀ b o, b < W.heap.size → w1.frozen? ⟨b, o, none⟩ = W.frozen? ⟨b, o, none⟩) :=
  ⟨fun b o h => hb.cell (p := ⟨b, o, none⟩) h, fun b o h => hb.frozen (p := ⟨b, o, none⟩) h⟩
end Ba
end Go.Proofs.Ytcbkhbnemhkheaa

/- A slice of slices of bytes that grows by one more: what it reads as. -/
import Derived.Test.YtldhplanpnddbaaBase2
import Derived.Test.YtldhplanpnddbaaVarint2
namespace Go.Proofs.Ytldhplanpnddbaa
namespace Ba
open Go.RowKit
set_option linter.unusedVariables false

/-- reads as l, in a block of which p holds -/
def ReadX (w : World) (A : Option Addr) (l : List UInt8) (p : Nat → Prop) : Prop :=
  0 < l.length → ∃ b o, A = some ⟨b, o, none⟩ ∧ p b ∧ b < w.heap.size ∧ ∀ k, k < l.length → w.cell? ⟨b, o + k, none⟩ = some (.int .u8 ((l.getD k 0).toNat : Int))
theorem ReadX.read {w : World} {A : Option Addr} {l : List UInt8} {p : Nat → Prop} (h : ReadX w A l p) : ReadB w w.heap.size A l := fun hn => by
  obtain ⟨b, o, e, _, hb, hc⟩ := h hn
  exact ⟨b, o, e, hb, hc⟩
theorem ReadX.grown {w w' : World} {row : Option Nat} {A : Option Addr} {l : List UInt8} {p p' : Nat → Prop} (h : ReadX w A l p) (hg : w.grownBy w' row) (hp : ∀ b, b < w.heap.size → p b → some b ≠ row) (hpp : ∀ b, b < w.heap.size → p b → p' b) : ReadX w' A l p' := fun hn => by
  obtain ⟨b, o, e, hb, hlt, hc⟩ := h hn
  exact ⟨b, o, e, hpp b hlt hb, Nat.lt_of_lt_of_le hlt hg.size, fun k hk => hg.cell (hc k hk) (hp b hlt hb)⟩

/-- a slice of slices of bytes in a row of the call's own; 'av': the row of another one -/
def AccB (w : World) (base : Nat) (E : TypeId) (v : Value) (av : Option Nat) (ls : List (List UInt8)) : Prop :=
  ∃ vs, w.ownsRow base E 1 v ls.length vs ∧ (v.ownBlock = none ∨ v.ownBlock ≠ av) ∧ ∀ j, j < ls.length → ∃ A c, vs[j]? = some (.slice A (ls.getD j []).length c) ∧ (ls.getD j []).length ≤ c ∧ c ≤ 9223372036854775807 ∧ ReadX w A (ls.getD j []) (fun b => some b ≠ v.ownBlock ∧ some b ≠ av)
section
variable {w w' : World} {base : Nat} {E : TypeId} {v : Value} {av av' : Option Nat} {ls : List (List UInt8)}
theorem AccB.nil : AccB w base E (.slice none 0 0) av [] := ⟨[], ⟨rfl, .inl ⟨rfl, rfl⟩⟩, .inl rfl, fun j hj => absurd hj (by simp)⟩
theorem AccB.lt (h : AccB w base E v av ls) : ∀ k, v.ownBlock = some k → base ≤ k ∧ k < w.heap.size := by
  obtain ⟨vs, h, _⟩ := h
  exact World.ownsRow.lt h
/-- nothing of it has turned -/
theorem AccB.below (h : AccB w base E v av ls) (hb : Below w.heap.size w w') : AccB w' base E v av ls := by
  obtain ⟨vs, h1, h2, h3⟩ := h
  refine ⟨vs, World.ownsRow.kept h1 (only_of_below hb none) (by cases v.ownBlock <;> simp), h2, fun j hj => ?_⟩
  obtain ⟨A, c, e, l1, l2, r⟩ := h3 j hj
  exact ⟨A, c, e, l1, l2, r.grown (only_of_below hb none) (by simp) (fun _ _ h => h)⟩
/-- the other one has grown -/
theorem AccB.other (h : AccB w base E v av ls) (hg : w.grownBy w' av) (ha : av' = av ∨ av' = some w.heap.size) : AccB w' base E v av' ls := by
  obtain ⟨vs, h1, h2, h3⟩ := h
  have hlt := World.ownsRow.lt h1
  refine ⟨vs, World.ownsRow.kept h1 hg h2, ?_, fun j hj => ?_⟩
  · rcases ha with rfl | rfl
    · exact h2
    · right; intro e; have := (hlt _ e).2; omega
  · obtain ⟨A, c, e, l1, l2, r⟩ := h3 j hj
    refine ⟨A, c, e, l1, l2, r.grown hg (fun b _ hb => hb.2) (fun b hlt hb => ⟨hb.1, ?_⟩)⟩
    rcases ha with rfl | rfl
    · exact hb.2
    · intro e; injection e with e; omega
/-- one more -/
theorem AccB.append {P : Program} (h : AccB w base E v av ls) (t ty : TypeId) (i : TypeInfo) (ht : P.underlying t = some (.slice E)) (hi : P.info? E = some i) (hz : i.zero = some (.slice none 0 0)) (hs : i.size = 1) (hby : i.bytes = 24)
    (l : List UInt8) (A : Option Addr) (c B : Nat) (x : Addr) (cx : Nat) (hxB : x.block < B) (hB : B ≤ w.heap.size) (hx : w.cell? x = some (.slice A l.length c)) (hlc : l.length ≤ c) (hcm : c ≤ 9223372036854775807) (hr : ReadX w A l (fun b => some b ≠ v.ownBlock ∧ some b ≠ av))
    (hav : ∀ k, av = some k → k < w.heap.size) (hlen : ls.length ≤ 1000) (hbase : base ≤ w.heap.size) :
    ∃ v' w', (Builtin.append_ #[t, t] ty #[v, .slice (some x) 1 cx]).run P w = .ok v' w' ∧ AccB w' base E v' av (ls ++ [l]) ∧ w.grownBy w' v.ownBlock ∧ (v'.ownBlock = v.ownBlock ∨ v'.ownBlock = some w.heap.size) := by
  obtain ⟨vs, h1, h2, h3⟩ := h
  have hlt := World.ownsRow.lt h1
  have hvs : vs.length = ls.length := by have := h1.1; simpa using this
  have hreads : ∀ j u, [Value.slice A l.length c][j]? = some u → w.cell? (x.add j) = some u := fun j u hj => by
    have : j = 0 := by have := (List.getElem?_eq_some_iff.1 hj).1; simp at this; omega
    subst this
    simp at hj
    subst hj
    rw [add_zero_]; exact hx
  obtain ⟨v', w', hrun, q2, q3, q4, q5⟩ := run_append_own_at (P := P) w base t ty E i (.slice none 0 0) 1 24 ht hi hz hs hby rfl (by omega) v ls.length vs h1 x 1 cx [.slice A l.length c] rfl hreads (by simp; rfl) (by unfold maxLen; omega) (by omega) hbase
  refine ⟨v', w', hrun, ⟨vs ++ [.slice A l.length c], ?_, ?_, fun j hj => ?_⟩, q3, q5⟩
  · rw [List.length_append]; exact q2
  · rcases q5 with q5 | q5
    · rw [q5]; exact h2
    · rw [q5]; right; intro e; have := hav _ e.symm; omega
  · have keep : ∀ b, b < w.heap.size → (some b ≠ v.ownBlock ∧ some b ≠ av) → some b ≠ v'.ownBlock ∧ some b ≠ av := fun b hb hp => ⟨by
      rcases q5 with q5 | q5
      · rw [q5]; exact hp.1
      · rw [q5]; intro e; injection e with e; omega, hp.2⟩
    by_cases hjl : j < ls.length
    · obtain ⟨A', c', e, l1, l2, r⟩ := h3 j hjl
      have e2 : (ls ++ [l]).getD j [] = ls.getD j [] := by simp [List.getD, List.getElem?_append_left hjl]
      rw [e2]
      exact ⟨A', c', by rw [List.getElem?_append_left (by omega)]; exact e, l1, l2, r.grown q3 (fun b _ hb => hb.1) keep⟩
    · have hje : j = ls.length := by simp at hj; omega
      subst hje
      have e2 : (ls ++ [l]).getD ls.length [] = l := by simp [List.getD]
      rw [e2]
      exact ⟨A, c, by rw [← hvs]; simp, hlc, hcm, hr.grown q3 (fun b _ hb => hb.1) keep⟩
/-- as an argument -/
theorem AccB.opens (h : AccB w base E v av ls) : ∃ A c, v = .slice A ls.length c ∧ ReadBB w w.heap.size A ls := by
  obtain ⟨vs, h1, h2, h3⟩ := h
  rcases h1.2 with ⟨rfl, hn⟩ | ⟨g, cap, cur, rfl, hb, hh, hnc, hm, _⟩
  · have : ls = [] := List.eq_nil_of_length_eq_zero hn
    subst this
    exact ⟨none, 0, rfl, ReadBB.nil⟩
  · refine ⟨_, _, rfl, fun _ => ⟨g, 0, rfl, (Array.getElem?_eq_some_iff.1 hh).1, fun k hk => ?_⟩⟩
    obtain ⟨A, c, e, l1, l2, r⟩ := h3 k hk
    refine ⟨A, c, ?_, l1, l2, r.read⟩
    rw [Nat.zero_add, World.ownsRow.cellAt h1 k (by omega)]
    exact e
end
end Ba
end Go.Proofs.Ytldhplanpnddbaa

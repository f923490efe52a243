/- What of a new file an old one has: a search, over lists: plain words and laws. F tells where a block is. -/
import Init
import Derived.WalkKit
import Derived.KernelRfl
import Derived.RowKit3
import Derived.Deep.LoopGhost
import Derived.Deep.QuietTactic
import Derived.BigQuiet
import Derived.Lib.Hide
import Derived.Below
import Derived.Laws.OwnMore
import Derived.Deep.AppendLies
import Derived.Deep.Draws
import Derived.Laws.Rows
import Derived.Maps.AppendAt
import Derived.RegionTactic
import Derived.OwnWalk
import Derived.Lib.ConvBytes
import Derived.Lib.AppendStr
import Derived.Laws.BytesArg
import Derived.Deep.OwnRows
import Derived.WalkSpells
import Derived.Laws.BitsAllLaws
import Derived.Laws.BitsLemmas
namespace Go.Proofs.YtiofkhjpknfkgaaDoor
namespace Tm
set_option linter.unusedVariables false
/-- an operation -/
structure O where
  copy : Bool
  pos : Int
  n : Int
  data : List UInt8
def cp (a n : Int) : O := ⟨true, a, n, []⟩
def lit (d : List UInt8) : O := ⟨false, 0, 0, d⟩
def whole (b : List UInt8) : List O := if b.length = 0 then [] else [lit b]
def cut (b : List UInt8) (i j : Nat) : List UInt8 := (b.drop i).take (j - i)
/-- does a copy go on where the last one ended? -/
def joins (out : List O) (frm i : Nat) (a : Int) : Bool := decide (frm = i) && (match out.getLast? with | some o => o.copy && decide (o.pos + o.n = a) | none => false)
def grow (out : List O) (z : Nat) : List O := out.dropLast ++ (match out.getLast? with | some o => [{ o with n := o.n + z }] | none => [])
def put1 (z : Nat) (b : List UInt8) (out : List O) (frm i : Nat) (a : Int) : List O := if joins out frm i a then grow out z else out ++ whole (cut b frm i) ++ [cp a z]
def srch (F : List UInt8 → Int × Bool) (z : Nat) (b : List UInt8) : Nat → List O → Nat → Nat → List O × Nat
  | 0, out, frm, i => (out, frm)
  | f + 1, out, frm, i =>
    if i + z ≤ b.length then
      if (F (cut b i (i + z))).2 then srch F z b f (put1 z b out frm i (F (cut b i (i + z))).1) (i + z) (i + z) else srch F z b f out frm (i + 1)
    else (out, frm)
def fin (b : List UInt8) (r : List O × Nat) : List O := if 4096 < (r.1 ++ whole (b.drop r.2)).length then whole b else r.1 ++ whole (b.drop r.2)
def search (F : List UInt8 → Int × Bool) (z : Nat) (b : List UInt8) : List O := fin b (srch F z b (b.length + 1) [] 0 0)
def copied (l : List O) : Int := (l.map fun o => if o.copy then o.n else 0).foldl (· + ·) 0
def literal (l : List O) : Int := (l.map fun o => if o.copy then 0 else (o.data.length : Int)).foldl (· + ·) 0
theorem foldl_add (l : List Int) (a : Int) : l.foldl (· + ·) a = a + l.foldl (· + ·) 0 := by
  induction l generalizing a with
  | nil => simp
  | cons x l ih => rw [List.foldl_cons, List.foldl_cons, ih, ih (0 + x)]; omega
theorem sum_append (l r : List Int) : (l ++ r).foldl (· + ·) 0 = l.foldl (· + ·) 0 + r.foldl (· + ·) 0 := by rw [List.foldl_append, foldl_add]
theorem copied_append (l r : List O) : copied (l ++ r) = copied l + copied r := by unfold copied; rw [List.map_append, sum_append]
theorem literal_append (l r : List O) : literal (l ++ r) = literal l + literal r := by unfold literal; rw [List.map_append, sum_append]
theorem copied_whole (b : List UInt8) : copied (whole b) = 0 := by unfold whole; split <;> simp [copied, lit]
theorem literal_whole (b : List UInt8) : literal (whole b) = b.length := by unfold whole; split <;> simp_all [literal, lit]
theorem copied_cp (a n : Int) : copied [cp a n] = n := by simp [copied, cp]
theorem literal_cp (a n : Int) : literal [cp a n] = 0 := by simp [literal, cp]
theorem cut_len (b : List UInt8) (i j : Nat) (h : i ≤ j) (hj : j ≤ b.length) : (cut b i j).length = j - i := by unfold cut; rw [List.length_take, List.length_drop]; omega
theorem whole_nil (b : List UInt8) (h : b.length = 0) : whole b = [] := if_pos h
theorem whole_len (b : List UInt8) : (whole b).length ≤ 1 := by unfold whole; split <;> simp
theorem last_split (out : List O) (o : O) (h : out.getLast? = some o) : out = out.dropLast ++ [o] := by
  have hne : out ≠ [] := by intro e; rw [e] at h; cases h
  rw [List.getLast?_eq_some_getLast hne] at h
  injection h with h
  rw [← h]
  exact (List.dropLast_concat_getLast hne).symm
theorem grow_eq (out : List O) (o : O) (z : Nat) (h : out.getLast? = some o) : grow out z = out.dropLast ++ [{ o with n := o.n + z }] := by unfold grow; rw [h]
/-- an invariant of the search's steps -/
theorem srch_ind (F : List UInt8 → Int × Bool) (z : Nat) (b : List UInt8) (hz : 1 ≤ z) (I : List O → Nat → Nat → Prop)
    (h1 : ∀ out frm i, I out frm i → i + z ≤ b.length → (F (cut b i (i + z))).2 = true → I (put1 z b out frm i (F (cut b i (i + z))).1) (i + z) (i + z))
    (h2 : ∀ out frm i, I out frm i → i + z ≤ b.length → (F (cut b i (i + z))).2 = false → I out frm (i + 1)) :
    ∀ f out frm i, I out frm i → b.length < i + f → ∃ i', I (srch F z b f out frm i).1 (srch F z b f out frm i).2 i' ∧ b.length < i' + z
  | 0, out, frm, i, h, hf => ⟨i, h, by omega⟩
  | f + 1, out, frm, i, h, hf => by
    unfold srch
    by_cases hb : i + z ≤ b.length
    · rw [if_pos hb]
      cases hF : (F (cut b i (i + z))).2 with
      | true =>
        simp only [if_true]
        exact srch_ind F z b hz I h1 h2 f _ _ _ (h1 out frm i h hb hF) (by omega)
      | false =>
        simp only [Bool.false_eq_true, if_false]
        exact srch_ind F z b hz I h1 h2 f _ _ _ (h2 out frm i h hb hF) (by omega)
    · rw [if_neg hb]
      exact ⟨i, h, by omega⟩
/-- more fuel changes nothing -/
theorem srch_fuel (F : List UInt8 → Int × Bool) (z : Nat) (b : List UInt8) (hz : 1 ≤ z) : ∀ f g out frm i, b.length < i + f → b.length < i + g → srch F z b f out frm i = srch F z b g out frm i
  | 0, 0, out, frm, i, h1, h2 => rfl
  | 0, g + 1, out, frm, i, h1, h2 => by
    unfold srch
    rw [if_neg (by omega)]
  | f + 1, 0, out, frm, i, h1, h2 => by
    unfold srch
    rw [if_neg (by omega)]
  | f + 1, g + 1, out, frm, i, h1, h2 => by
    unfold srch
    by_cases hb : i + z ≤ b.length
    · rw [if_pos hb, if_pos hb]
      cases hF : (F (cut b i (i + z))).2 with
      | true =>
        simp only [if_true]
        exact srch_fuel F z b hz f g _ _ _ (by omega) (by omega)
      | false =>
        simp only [Bool.false_eq_true, if_false]
        exact srch_fuel F z b hz f g _ _ _ (by omega) (by omega)
    · rw [if_neg hb, if_neg hb]
/-- what is left of a search -/
def rest (F : List UInt8 → Int × Bool) (z : Nat) (b : List UInt8) (out : List O) (frm i : Nat) : List O × Nat := srch F z b (b.length + 1 - i) out frm i
theorem rest_zero (F : List UInt8 → Int × Bool) (z : Nat) (b : List UInt8) : rest F z b [] 0 0 = srch F z b (b.length + 1) [] 0 0 := rfl
theorem rest_hit (F : List UInt8 → Int × Bool) (z : Nat) (b : List UInt8) (hz : 1 ≤ z) (out : List O) (frm i : Nat) (hb : i + z ≤ b.length) (hF : (F (cut b i (i + z))).2 = true) : rest F z b out frm i = rest F z b (put1 z b out frm i (F (cut b i (i + z))).1) (i + z) (i + z) := by
  unfold rest
  obtain ⟨k, hk⟩ : ∃ k, b.length + 1 - i = k + 1 := ⟨b.length - i, by omega⟩
  rw [hk, srch, if_pos hb, hF]
  simp only [if_true]
  exact srch_fuel F z b hz _ _ _ _ _ (by omega) (by omega)
theorem rest_miss (F : List UInt8 → Int × Bool) (z : Nat) (b : List UInt8) (hz : 1 ≤ z) (out : List O) (frm i : Nat) (hb : i + z ≤ b.length) (hF : (F (cut b i (i + z))).2 = false) : rest F z b out frm i = rest F z b out frm (i + 1) := by
  unfold rest
  obtain ⟨k, hk⟩ : ∃ k, b.length + 1 - i = k + 1 := ⟨b.length - i, by omega⟩
  rw [hk, srch, if_pos hb, hF]
  simp only [Bool.false_eq_true, if_false]
  exact srch_fuel F z b hz _ _ _ _ _ (by omega) (by omega)
theorem rest_end (F : List UInt8 → Int × Bool) (z : Nat) (b : List UInt8) (out : List O) (frm i : Nat) (hb : ¬ i + z ≤ b.length) : rest F z b out frm i = (out, frm) := by
  unfold rest
  cases h : b.length + 1 - i with
  | zero => rfl
  | succ k => rw [srch, if_neg hb]
end Tm
end Go.Proofs.YtiofkhjpknfkgaaDoor
/- Laws of the search: what it tells is the new file; of a file of whole blocks, copies alone; what stands ahead costs little. -/
namespace Go.Proofs.YtiofkhjpknfkgaaDoor
namespace Tm
set_option linter.unusedVariables false
def osize (o : O) : Nat := if o.copy then o.n.toNat else o.data.length
/-- an operation tells what stands at a place of the new file -/
def okAt {α : Type} (S : List UInt8 → α) (old b : List UInt8) (z : Nat) (o : O) (p : Nat) : Prop :=
  if o.copy then ∃ N A : Nat, o.n = (N : Int) ∧ o.pos = (A : Int) ∧ z ≤ N ∧ N % z = 0 ∧ A % z = 0 ∧ A + N ≤ old.length ∧ p + N ≤ b.length ∧ ∀ k, k * z < N → S (cut old (A + k * z) (A + k * z + z)) = S (cut b (p + k * z) (p + k * z + z))
  else 0 < o.data.length ∧ p + o.data.length ≤ b.length ∧ o.data = cut b p (p + o.data.length)
def tiled {α : Type} (S : List UInt8 → α) (old b : List UInt8) (z : Nat) : List O → Nat → Nat → Prop
  | [], p, q => p = q
  | o :: l, p, q => okAt S old b z o p ∧ tiled S old b z l (p + osize o) q
section
variable {α : Type} {S : List UInt8 → α} {old b : List UInt8} {z : Nat}
theorem tiled_append (l r : List O) : ∀ p q, tiled S old b z (l ++ r) p q ↔ ∃ m, tiled S old b z l p m ∧ tiled S old b z r m q := by
  induction l with
  | nil => intro p q; simp [tiled]
  | cons o l ih =>
    intro p q
    simp only [List.cons_append, tiled, ih]
    constructor
    · rintro ⟨h, m, h1, h2⟩; exact ⟨m, ⟨h, h1⟩, h2⟩
    · rintro ⟨m, ⟨h, h1⟩, h2⟩; exact ⟨h, m, h1, h2⟩
theorem tiled_whole (d : List UInt8) (p q : Nat) (hq : q = p + d.length) (hb : q ≤ b.length) (hd : d = cut b p q) : tiled S old b z (whole d) p q := by
  unfold whole
  by_cases h : d.length = 0
  · rw [if_pos h]; show p = q; omega
  · rw [if_neg h]
    refine ⟨?_, ?_⟩
    · unfold okAt
      simp only [lit, Bool.false_eq_true, if_false]
      exact ⟨by omega, by omega, by rw [← hq]; exact hd⟩
    · show p + osize (lit d) = q
      simp [osize, lit]
      omega
/-- where a block is found, it has the sum of the bytes -/
def Finds (S : List UInt8 → α) (old : List UInt8) (z : Nat) (F : List UInt8 → Int × Bool) : Prop := ∀ x, x.length = z → (F x).2 = true → ∃ j : Nat, (F x).1 = ((j * z : Nat) : Int) ∧ j * z + z ≤ old.length ∧ S (cut old (j * z) (j * z + z)) = S x
theorem okAt_cp (hz : 1 ≤ z) (j p : Nat) (hj : j * z + z ≤ old.length) (hp : p + z ≤ b.length) (h : S (cut old (j * z) (j * z + z)) = S (cut b p (p + z))) : okAt S old b z (cp ((j * z : Nat) : Int) (z : Int)) p := by
  unfold okAt
  simp only [cp, if_true]
  refine ⟨z, j * z, rfl, rfl, Nat.le_refl _, Nat.mod_self z, Nat.mul_mod_left j z, hj, hp, fun k hk => ?_⟩
  have hk0 : k = 0 := by
    rcases Nat.eq_zero_or_pos k with h | h
    · exact h
    · have : 1 * z ≤ k * z := Nat.mul_le_mul_right z h
      omega
  subst hk0
  simpa using h
theorem okAt_grow (hz : 1 ≤ z) (o : O) (p j : Nat) (hc : o.copy = true) (h : okAt S old b z o p) (ha : o.pos + o.n = ((j * z : Nat) : Int)) (hj : j * z + z ≤ old.length) (hp : p + osize o + z ≤ b.length) (hs : S (cut old (j * z) (j * z + z)) = S (cut b (p + osize o) (p + osize o + z))) :
    okAt S old b z { o with n := o.n + z } p ∧ p + osize { o with n := o.n + (z : Int) } = p + osize o + z := by
  unfold okAt at h ⊢
  rw [if_pos hc] at h
  simp only [hc, if_true]
  obtain ⟨N, A, h1, h2, h3, h4, h5, h6, h7, h8⟩ := h
  have ho : osize o = N := by unfold osize; rw [if_pos hc, h1]; simp
  have hA : A + N = j * z := by rw [h1, h2] at ha; omega
  rw [ho] at hp hs ⊢
  refine ⟨⟨N + z, A, by rw [h1]; simp, h2, by omega, by rw [Nat.add_mod_right]; exact h4, h5, by omega, by omega, fun k hk => ?_⟩, ?_⟩
  · by_cases hkN : k * z < N
    · exact h8 k hkN
    · have hkk : k * z = N := by
        obtain ⟨m, hm⟩ := Nat.dvd_of_mod_eq_zero h4
        rw [Nat.mul_comm] at hm
        rw [hm] at hkN hk ⊢
        have e1 : m ≤ k := by
          rcases Nat.lt_or_ge k m with h | h
          · have : k * z < m * z := Nat.mul_lt_mul_of_pos_right h (by omega)
            omega
          · exact h
        have e2 : k < m + 1 := by
          rcases Nat.lt_or_ge k (m + 1) with h | h
          · exact h
          · have := Nat.mul_le_mul_right z h
            rw [Nat.add_mul, Nat.one_mul] at this
            omega
        have : k = m := by omega
        rw [this]
      rw [hkk, show A + N + z = j * z + z by omega, hA]
      exact hs
  · unfold osize
    simp only [hc, if_true]
    rw [h1]
    omega
theorem joins_spec {out : List O} {frm i : Nat} {a : Int} (h : joins out frm i a = true) : frm = i ∧ ∃ o, out.getLast? = some o ∧ o.copy = true ∧ o.pos + o.n = a := by
  unfold joins at h
  simp only [Bool.and_eq_true, decide_eq_true_eq] at h
  obtain ⟨h1, h2⟩ := h
  cases ho : out.getLast? with
  | none => rw [ho] at h2; cases h2
  | some o =>
    rw [ho] at h2
    simp only [Bool.and_eq_true, decide_eq_true_eq] at h2
    exact ⟨h1, o, rfl, h2.1, h2.2⟩
/-- copies and bytes together are just the new file -/
theorem tells (F : List UInt8 → Int × Bool) (hz : 1 ≤ z) (hF : Finds S old z F) (hb : b.length ≤ 2000) : tiled S old b z (search F z b) 0 b.length := by
  obtain ⟨i', hI, hend⟩ := srch_ind F z b hz (fun out frm i => tiled S old b z out 0 frm ∧ frm ≤ i ∧ i ≤ b.length ∧ out.length ≤ 2 * i)
    (fun out frm i h hib hf => by
      obtain ⟨h1, h2, h3, h4⟩ := h
      have hxl : (cut b i (i + z)).length = z := by rw [cut_len b i (i + z) (by omega) hib]; omega
      obtain ⟨j, hj1, hj2, hj3⟩ := hF _ hxl hf
      unfold put1
      cases hjn : joins out frm i (F (cut b i (i + z))).1 with
      | true =>
        simp only [if_true]
        obtain ⟨e1, o, ho, hc, ha⟩ := joins_spec hjn
        subst e1
        rw [hj1] at ha
        rw [grow_eq out o z ho]
        have hsp := last_split out o ho
        rw [hsp, tiled_append] at h1
        obtain ⟨m, t1, t2, t3⟩ := h1
        have t3 : m + osize o = frm := t3
        obtain ⟨g1, g2⟩ := okAt_grow hz o m j hc t2 ha hj2 (by omega) (by rw [t3]; exact hj3)
        refine ⟨?_, by omega, by omega, ?_⟩
        · rw [tiled_append]
          exact ⟨m, t1, g1, by show _ = _; omega⟩
        · rw [hsp] at h4
          simp at h4 ⊢
          omega
      | false =>
        simp only [Bool.false_eq_true, if_false]
        refine ⟨?_, by omega, by omega, ?_⟩
        · rw [tiled_append]
          refine ⟨i, ?_, ?_⟩
          · rw [tiled_append]
            exact ⟨frm, h1, tiled_whole _ frm i (by rw [cut_len b frm i h2 h3]; omega) h3 rfl⟩
          · rw [hj1]
            exact ⟨okAt_cp hz j i hj2 hib hj3, by show i + osize (cp _ _) = i + z; simp [osize, cp]⟩
        · have := whole_len (cut b frm i)
          simp
          omega)
    (fun out frm i h hib hf => ⟨h.1, by omega, by omega, by omega⟩)
    (b.length + 1) [] 0 0 ⟨rfl, by omega, by omega, by simp⟩ (by omega)
  obtain ⟨h1, h2, h3, h4⟩ := hI
  have hw := whole_len (b.drop (srch F z b (b.length + 1) [] 0 0).2)
  unfold search fin
  rw [if_neg (by rw [List.length_append]; omega), tiled_append]
  refine ⟨_, h1, tiled_whole _ _ _ (by rw [List.length_drop]; omega) (Nat.le_refl _) ?_⟩
  unfold cut
  rw [List.take_of_length_le (by rw [List.length_drop]; omega)]
end
/-- together they are as many bytes -/
theorem tiled_count {α : Type} {S : List UInt8 → α} {old b : List UInt8} {z : Nat} : ∀ (l : List O) (p q : Nat), tiled S old b z l p q → copied l + literal l = (q : Int) - (p : Int)
  | [], p, q, h => by
    have : p = q := h
    subst this
    simp [copied, literal]
  | o :: l, p, q, h => by
    obtain ⟨h1, h2⟩ := h
    have ih := tiled_count l _ q h2
    have e : o :: l = [o] ++ l := rfl
    rw [e, copied_append, literal_append]
    have ho : copied [o] + literal [o] = (osize o : Int) := by
      unfold okAt at h1
      unfold copied literal osize
      cases hc : o.copy with
      | true =>
        rw [if_pos hc] at h1
        obtain ⟨N, A, e1, _⟩ := h1
        simp [hc, e1]
      | false => simp [hc]
    omega
/-- of itself a file of whole blocks is copies alone -/
theorem self (F : List UInt8 → Int × Bool) (z : Nat) (b : List UInt8) (hz : 1 ≤ z) (hF : ∀ k, k * z + z ≤ b.length → (F (cut b (k * z) (k * z + z))).2 = true) (hm : b.length % z = 0) (hb : b.length ≤ 2000) :
    copied (search F z b) = (b.length : Int) ∧ literal (search F z b) = 0 := by
  obtain ⟨i', hI, hend⟩ := srch_ind F z b hz (fun out frm i => frm = i ∧ i ≤ b.length ∧ (∃ k, i = k * z) ∧ copied out = (i : Int) ∧ literal out = 0 ∧ out.length ≤ 2 * i)
    (fun out frm i h hib hf => by
      obtain ⟨rfl, h2, ⟨k, hk⟩, h4, h5, h6⟩ := h
      have hnil : whole (cut b frm frm) = [] := whole_nil _ (by rw [cut_len b frm frm (Nat.le_refl _) h2]; omega)
      refine ⟨rfl, by omega, ⟨k + 1, by rw [hk, Nat.add_mul, Nat.one_mul]⟩, ?_⟩
      unfold put1
      cases hjn : joins out frm frm (F (cut b frm (frm + z))).1 with
      | true =>
        simp only [if_true]
        obtain ⟨_, o, ho, hc, ha⟩ := joins_spec hjn
        have hsp := last_split out o ho
        rw [grow_eq out o z ho]
        rw [hsp, copied_append] at h4
        rw [hsp, literal_append] at h5
        rw [hsp] at h6
        rw [copied_append, literal_append]
        have c1 : copied [o] = o.n := by simp [copied, hc]
        have c2 : copied [{ o with n := o.n + (z : Int) }] = o.n + z := by simp [copied, hc]
        have l1 : literal [o] = 0 := by simp [literal, hc]
        have l2 : literal [{ o with n := o.n + (z : Int) }] = 0 := by simp [literal, hc]
        rw [c1] at h4
        rw [l1] at h5
        rw [c2, l2]
        simp at h6 ⊢
        refine ⟨by omega, by omega, by omega⟩
      | false =>
        simp only [Bool.false_eq_true, if_false]
        rw [hnil, List.append_nil, copied_append, literal_append, copied_cp, literal_cp]
        simp
        refine ⟨by omega, by omega, by omega⟩)
    (fun out frm i h hib hf => by
      obtain ⟨rfl, h2, ⟨k, hk⟩, _⟩ := h
      have := hF k (by omega)
      rw [← hk, hf] at this
      cases this)
    (b.length + 1) [] 0 0 ⟨rfl, by omega, ⟨0, by simp⟩, by simp [copied], by simp [literal], by simp⟩ (by omega)
  obtain ⟨h1, h2, ⟨k, hk⟩, h4, h5, h6⟩ := hI
  have hib : i' = b.length := by
    obtain ⟨m, hm'⟩ := Nat.dvd_of_mod_eq_zero hm
    rw [Nat.mul_comm] at hm'
    rw [hm', hk] at hend h2 ⊢
    have e1 : k ≤ m := by
      rcases Nat.lt_or_ge m k with h | h
      · have := Nat.mul_lt_mul_of_pos_right h (show 0 < z by omega)
        omega
      · exact h
    have e2 : m < k + 1 := by
      rcases Nat.lt_or_ge m (k + 1) with h | h
      · exact h
      · have := Nat.mul_le_mul_right z h
        rw [Nat.add_mul, Nat.one_mul] at this
        omega
    have : k = m := by omega
    rw [this]
  unfold search fin
  rw [h1, hib, whole_nil (b.drop b.length) (by simp), List.append_nil, if_neg (by omega)]
  exact ⟨by rw [h4, hib], h5⟩
/-- what stands ahead of a file costs no more than itself and less than two blocks -/
theorem moved (F : List UInt8 → Int × Bool) (z la : Nat) (b : List UInt8) (hz : 1 ≤ z) (hla : la ≤ b.length) (hF : ∀ k, la + k * z + z ≤ b.length → (F (cut b (la + k * z) (la + k * z + z))).2 = true) (hb : b.length ≤ 2000) :
    literal (search F z b) ≤ (la : Int) + z + z := by
  obtain ⟨i', hI, hend⟩ := srch_ind F z b hz (fun out frm i => frm ≤ i ∧ i ≤ b.length ∧ out.length ≤ 2 * i ∧ 0 ≤ literal out ∧ (i < la → literal out + ((i : Int) - frm) ≤ i) ∧ (la ≤ i → literal out + ((i : Int) - frm) ≤ la + (if (i - la) % z = 0 then (z : Int) - 1 else (((i - la) % z : Nat) : Int) - 1)))
    (fun out frm i h hib hf => by
      obtain ⟨h1, h2, h3, h0, h4, h5⟩ := h
      have hlit : literal (put1 z b out frm i (F (cut b i (i + z))).1) = literal out + ((i : Int) - frm) ∧ (put1 z b out frm i (F (cut b i (i + z))).1).length ≤ 2 * i + 2 := by
        unfold put1
        cases hjn : joins out frm i (F (cut b i (i + z))).1 with
        | true =>
          simp only [if_true]
          obtain ⟨e, o, ho, hc, ha⟩ := joins_spec hjn
          have hsp := last_split out o ho
          rw [grow_eq out o z ho]
          have l1 : literal [o] = 0 := by simp [literal, hc]
          have l2 : literal [{ o with n := o.n + (z : Int) }] = 0 := by simp [literal, hc]
          have h6 : literal out = literal out.dropLast := by
            conv => lhs; rw [hsp]
            rw [literal_append, l1]
            omega
          rw [literal_append, l2, h6]
          refine ⟨by omega, ?_⟩
          simp
          omega
        | false =>
          simp only [Bool.false_eq_true, if_false]
          rw [literal_append, literal_append, literal_cp, literal_whole, cut_len b frm i h1 h2]
          have := whole_len (cut b frm i)
          refine ⟨by omega, ?_⟩
          simp
          omega
      refine ⟨Nat.le_refl _, hib, by omega, by omega, fun hi => ?_, fun hi => ?_⟩
      · rw [hlit.1]
        have := h4 (by omega)
        omega
      · rw [hlit.1]
        rcases Nat.lt_or_ge i la with h | h
        · have := h4 h
          have hpos : (0 : Int) ≤ (if (i + z - la) % z = 0 then (z : Int) - 1 else (((i + z - la) % z : Nat) : Int) - 1) := by split <;> omega
          omega
        · have h6 := h5 h
          have e : (i + z - la) % z = (i - la) % z := by
            rw [show i + z - la = (i - la) + z by omega, Nat.add_mod_right]
          rw [e]
          omega)
    (fun out frm i h hib hf => by
      obtain ⟨h1, h2, h3, h0, h4, h5⟩ := h
      refine ⟨by omega, by omega, by omega, h0, fun hi => ?_, fun hi => ?_⟩
      · have := h4 (by omega)
        omega
      · rcases Nat.lt_or_ge i la with h | h
        · have h6 := h4 h
          have e : i + 1 - la = 0 := by omega
          rw [e, Nat.zero_mod, if_pos rfl]
          omega
        · have h6 := h5 h
          have hr : (i - la) % z ≠ 0 := fun h0 => by
            obtain ⟨k, hk⟩ := Nat.dvd_of_mod_eq_zero h0
            rw [Nat.mul_comm] at hk
            have := hF k (by omega)
            rw [← hk, show la + (i - la) = i by omega, hf] at this
            cases this
          rw [if_neg hr] at h6
          have hlt := Nat.mod_lt (i - la) (show z > 0 by omega)
          by_cases hz1 : (i - la) % z + 1 = z
          · have e : (i + 1 - la) % z = 0 := by
              rw [show i + 1 - la = (i - la) + 1 by omega, Nat.add_mod]
              rcases Nat.lt_or_ge 1 z with h1 | h1
              · rw [Nat.mod_eq_of_lt h1, hz1, Nat.mod_self]
              · have : z = 1 := by omega
                subst this
                omega
            rw [e, if_pos rfl]
            omega
          · have e : (i + 1 - la) % z = (i - la) % z + 1 := by
              rw [show i + 1 - la = (i - la) + 1 by omega, Nat.add_mod, Nat.mod_eq_of_lt (show 1 < z by omega), Nat.mod_eq_of_lt (by omega)]
            rw [e, if_neg (by omega)]
            omega)
    (b.length + 1) [] 0 0 ⟨by omega, by omega, by simp, by simp [literal], fun _ => by simp [literal], fun h => by
      have : la = 0 := by omega
      subst this
      simp [literal]
      omega⟩ (by omega)
  obtain ⟨h1, h2, h3, h0, h4, h5⟩ := hI
  have hw := whole_len (b.drop (srch F z b (b.length + 1) [] 0 0).2)
  unfold search fin
  rw [if_neg (by rw [List.length_append]; omega), literal_append, literal_whole, List.length_drop]
  rcases Nat.lt_or_ge i' la with h | h
  · have := h4 h
    omega
  · have h6 := h5 h
    have hlt := Nat.mod_lt (i' - la) (show z > 0 by omega)
    split at h6 <;> omega
end Tm
end Go.Proofs.YtiofkhjpknfkgaaDoor
/- Words for memory that the walks share: slices that read as lists of bytes, blocks that are known whole, what is appended and converted. (The first three parts are the guide's own lemmas to copy, from its page extra-words.) -/
namespace Go.Proofs.YtiofkhjpknfkgaaDoor
namespace Ba
open Go.RowKit
set_option linter.unusedVariables false
theorem block_of_add (a : Addr) (n : Nat) : (a.add n).block = a.block := by unfold Addr.add; split <;> rfl
theorem add_of_add (a : Addr) (i j : Nat) : (a.add i).add j = a.add (i + j) := by
  unfold Addr.add
  by_cases hi : i = 0 <;> by_cases hj : j = 0 <;> simp [hi, hj, Nat.add_assoc]

def Reads (w : World) (B size : Nat) (A : Option Addr) (n : Nat) (xs : List Value) : Prop :=
  xs.length = n * size ∧ (0 < n → ∃ ad, A = some ad ∧ ad.block < B ∧ ∀ j u, xs[j]? = some u → w.cell? (ad.add j) = some u)

section
variable {w w' : World} {B B' size n : Nat} {A : Option Addr} {xs : List Value}
theorem Reads.none_ : Reads w B size A 0 [] := ⟨by simp, fun h => absurd h (by omega)⟩
theorem Reads.at_ {k : Nat} (h : Reads w B 1 A n xs) (hk : k < n) : ∃ ad u, A = some ad ∧ ad.block < B ∧ xs[k]? = some u ∧ w.cell? (ad.add k) = some u := by
  obtain ⟨ad, e, hb, hc⟩ := h.2 (by omega)
  have hl : k < xs.length := by have := h.1; omega
  exact ⟨ad, xs[k], e, hb, List.getElem?_eq_getElem hl, hc k _ (List.getElem?_eq_getElem hl)⟩
theorem Reads.keep (h : Reads w B size A n xs) (hk : ∀ p : Addr, p.block < B → w'.cell? p = w.cell? p) : Reads w' B size A n xs :=
  ⟨h.1, fun hn => by
    obtain ⟨ad, e, hb, hc⟩ := h.2 hn
    exact ⟨ad, e, hb, fun j u hu => (hk _ (by rw [block_of_add]; exact hb)).trans (hc j u hu)⟩⟩
theorem Reads.more (h : Reads w B size A n xs) (hB : B ≤ B') : Reads w B' size A n xs :=
  ⟨h.1, fun hn => by
    obtain ⟨ad, e, hb, hc⟩ := h.2 hn
    exact ⟨ad, e, by omega, hc⟩⟩
theorem Reads.below (h : Reads w B size A n xs) (hb : Below B w w') : Reads w' B size A n xs := h.keep fun _ hp => hb.cell hp
theorem Reads.drew (h : Reads w B size A n xs) : Reads w.drew B size A n xs := h
theorem Reads.drewN (h : Reads w B size A n xs) (k : Nat) : Reads (w.drewN k) B size A n xs := h
theorem Reads.alloc (h : Reads w B size A n xs) (hB : B ≤ w.heap.size) (o : Obj) : Reads (w.alloc o) B size A n xs := h.keep fun p hp => World.cell?_alloc_lt w o p (by omega)
theorem Reads.setCell (h : Reads w B size A n xs) {p : Addr} (hB : B ≤ p.block) (u : Value) : Reads (w.setCell p u) B size A n xs :=
  h.keep fun q hq => World.cell?_setCell_other w p q u (fun e => by subst e; omega)
theorem Reads.grown (h : Reads w B size A n xs) {row : Option Nat} (hg : w.grownBy w' row) (hB : B ≤ w.heap.size) (hr : ∀ g, row = some g → B ≤ g) : Reads w' B size A n xs :=
  h.keep fun p hp => World.cell?_of_block (hg.block p.block (by omega) (fun e => by have := hr _ e.symm; omega))
theorem Reads.cut (h : Reads w B size A n xs) {k cap : Nat} (hk : k ≤ n) (hc : n ≤ cap) :
    Reads w B size (if cap = k then A else A.map (·.add (k * size))) (n - k) (xs.drop (k * size)) := by
  refine ⟨by rw [List.length_drop, h.1, Nat.sub_mul], fun hn => ?_⟩
  obtain ⟨ad, rfl, hb, hcell⟩ := h.2 (by omega)
  rw [if_neg (by omega)]
  refine ⟨ad.add (k * size), rfl, by rw [block_of_add]; exact hb, fun j u hu => ?_⟩
  rw [add_of_add]
  exact hcell _ u (by rw [← hu, List.getElem?_drop])
theorem Reads.of_own {base : Nat} {e : TypeId} {c : Nat} (h : w.ownsRow base e size (.slice A n c) n xs) : Reads w w.heap.size size A n xs := by
  refine ⟨h.1, fun hn => ?_⟩
  obtain ⟨g, cap, hv, _, hlt⟩ := h.form hn
  have hA : A = some ⟨g, 0, none⟩ := by injection hv
  subst hA
  exact ⟨_, rfl, hlt, h.cells (g := g) rfl⟩
end

def Blk (w : World) (g : Nat) (t : TypeId) (cs : Array Value) : Prop := w.heap[g]? = some (.cells cs t (0, 0))

section
variable {w w' : World} {g : Nat} {t : TypeId} {cs : Array Value}
theorem Blk.lt (h : Blk w g t cs) : g < w.heap.size := by
  rcases Nat.lt_or_ge g w.heap.size with hlt | hge
  · exact hlt
  · unfold Blk at h; rw [Array.getElem?_eq_none hge] at h; cases h
theorem Blk.cell (h : Blk w g t cs) (i : Nat) : w.cell? ⟨g, i, none⟩ = cs[i]? := cell_of_row w g i cs t (0, 0) h
theorem Blk.frozen (h : Blk w g t cs) (i : Nat) : w.frozen? ⟨g, i, none⟩ = false := by
  unfold Blk at h
  simp [World.frozen?, h]
theorem Blk.new (w : World) (t : TypeId) (cs : Array Value) : Blk (w.alloc (.cells cs t)) w.heap.size t cs := heap_alloc_new w _
theorem Blk.drew (h : Blk w g t cs) : Blk w.drew g t cs := h
theorem Blk.drewN (h : Blk w g t cs) (n : Nat) : Blk (w.drewN n) g t cs := h
theorem Blk.alloc (h : Blk w g t cs) (o : Obj) : Blk (w.alloc o) g t cs := (Below.heap_alloc w o g h.lt).trans h
theorem Blk.set_ (h : Blk w g t cs) (i : Nat) (u : Value) : Blk (w.setCell ⟨g, i, none⟩ u) g t (cs.setIfInBounds i u) := by
  unfold Blk at h ⊢
  simp [World.setCell, Array.getElem?_modify, h]
theorem Blk.far (h : Blk w g t cs) {p : Addr} (hp : g ≠ p.block) (u : Value) : Blk (w.setCell p u) g t cs := (Below.heap_setCell w p u g hp).trans h
theorem Blk.below {B : Nat} (h : Blk w g t cs) (hb : Below B w w') (hg : g < B) : Blk w' g t cs := (hb.block g hg).trans h
theorem Blk.grown {row : Option Nat} (h : Blk w g t cs) (hb : w.grownBy w' row) (hg : some g ≠ row) : Blk w' g t cs := (hb.block g h.lt hg).trans h
theorem Blk.ne_ {g' : Nat} {t' : TypeId} {cs' : Array Value} (h : Blk w g t cs) (h' : Blk w g' t' cs') (hne : t ≠ t') : g ≠ g' := by
  rintro rfl
  unfold Blk at h h'
  rw [h] at h'
  injection h' with h'
  injection h' with _ ht
  exact hne ht
theorem own_blk_ne {base : Nat} {e : TypeId} {size n : Nat} {v : Value} {xs : List Value} (h : w.ownsRow base e size v n xs) (hg : Blk w g t cs) (hne : e ≠ t) : v.ownBlock ≠ some g := by
  rcases h.2 with ⟨rfl, _⟩ | ⟨g', cap, cur, rfl, _, hh, _⟩
  · simp [Value.ownBlock]
  · intro he
    have : g' = g := by simpa [Value.ownBlock] using he
    subst this
    exact Blk.ne_ (t := e) hh hg hne rfl
end

section
variable {P : Program} (w : World)

theorem run_append_of_nil (base : Nat) (t ty e : TypeId) (i : TypeInfo) (size : Nat) (ht : P.underlying t = some (.slice e)) (hi : P.info? e = some i)
    (v : Value) (n : Nat) (xs : List Value) (hown : w.ownsRow base e size v n xs) (c : Nat) : (Builtin.append_ #[t, t] ty #[v, .slice none 0 c]).run P w = .ok v w := by
  rcases hown.2 with ⟨rfl, rfl⟩ | ⟨g, cap, cur, rfl, _, _, hnc, _⟩
  · simp [Builtin.append_, run_underlying ht, sizeOf, typeInfo, hi, Builtin.lenOf, Builtin.firstCells]
  · simp [Builtin.append_, run_underlying ht, sizeOf, typeInfo, hi, Builtin.lenOf, Builtin.firstCells, hnc, storeCells]

theorem run_append_any (base : Nat) (t ty e : TypeId) (i : TypeInfo) (z : Value) (size bytes : Nat) (ht : P.underlying t = some (.slice e)) (hi : P.info? e = some i) (hz : i.zero = some z)
    (hsize : i.size = size) (hby : i.bytes = bytes) (hzs : z.cells.size = size) (hsz : 0 < size)
    (v : Value) (n : Nat) (xs : List Value) (hown : w.ownsRow base e size v n xs)
    (B : Nat) (A : Option Addr) (m c : Nat) (news : List Value) (hr : Reads w B size A m news) (h1 : ∀ u ∈ news, u.oneCell' = true)
    (h63 : n + m ≤ maxLen) (hbytes : (n + m) * bytes ≤ 140737488355328) (hbase : base ≤ w.heap.size) :
    ∃ v' w', (Builtin.append_ #[t, t] ty #[v, .slice A m c]).run P w = .ok v' w' ∧ w'.ownsRow base e size v' (n + m) (xs ++ news) ∧ w.grownBy w' v.ownBlock ∧
      (v'.ownBlock = v.ownBlock ∨ v'.ownBlock = some w.heap.size) := by
  rcases A with _ | ad
  · have hm : m = 0 := by
      rcases Nat.eq_zero_or_pos m with h0 | h0
      · exact h0
      · obtain ⟨ad, h, _⟩ := hr.2 h0
        cases h
    subst hm
    have hn : news = [] := List.eq_nil_of_length_eq_zero (by simpa using hr.1)
    subst hn
    exact ⟨v, w, run_append_of_nil w base t ty e i size ht hi v n xs hown c, by simpa using hown, World.grownBy.refl w _, .inl rfl⟩
  · have hcells : ∀ j u, news[j]? = some u → w.cell? (ad.add j) = some u := by
      intro j u hu
      rcases Nat.eq_zero_or_pos m with h0 | h0
      · subst h0
        have hn : news = [] := List.eq_nil_of_length_eq_zero (by simpa using hr.1)
        subst hn
        simp at hu
      · obtain ⟨ad', h, _, hc⟩ := hr.2 h0
        injection h with h
        subst h
        exact hc j u hu
    obtain ⟨v', w', hrun, h2, h3, _, h5⟩ := run_append_own_at (P := P) w base t ty e i z size bytes ht hi hz hsize hby hzs hsz v n xs hown ad m c news hr.1 hcells h1 h63 hbytes hbase
    exact ⟨v', w', hrun, h2, h3, h5⟩

theorem wp_append_any {o : Oper} {a : Act} {K : Act → World → Prop} {Q : Exit → Act → World → Prop} (s x : Operand) (t : TypeId)
    (ho : o.op = .call { callee := .builtin .append, args := #[s, x], argTypes := #[t, t] })
    (base : Nat) (e : TypeId) (i : TypeInfo) (z : Value) (size bytes : Nat) (ht : P.underlying t = some (.slice e)) (hi : P.info? e = some i) (hz : i.zero = some z)
    (hsize : i.size = size) (hby : i.bytes = bytes) (hzs : z.cells.size = size) (hsz : 0 < size)
    (v : Value) (n : Nat) (xs : List Value) (hs : a.eval s = v) (hown : w.ownsRow base e size v n xs)
    (B : Nat) (A : Option Addr) (m c : Nat) (news : List Value) (hx : a.eval x = .slice A m c) (hr : Reads w B size A m news) (h1 : ∀ u ∈ news, u.oneCell' = true)
    (h63 : n + m ≤ maxLen) (hbytes : (n + m) * bytes ≤ 140737488355328) (hbase : base ≤ w.heap.size)
    (h : ∀ v' w', w'.ownsRow base e size v' (n + m) (xs ++ news) → w.grownBy w' v.ownBlock → (v'.ownBlock = v.ownBlock ∨ v'.ownBlock = some w.heap.size) → K (a.put o.dst v') w') : o.wp P a w K Q := by
  obtain ⟨v', w', hrun, h2, h3, h4⟩ := run_append_any (P := P) w base t o.type e i z size bytes ht hi hz hsize hby hzs hsz v n xs hown B A m c news hr h1 h63 hbytes hbase
  unfold Oper.wp execOp
  simp only [ho, resolve, invoke, builtin, Sem.run_bind, Sem.run_pure, Result.andThen_ok, List.map_toArray, List.map_cons, List.map_nil, hs, hx, hrun]
  exact h v' w' h2 h3 h4

theorem wpList_append_any {ops : Array Oper} {rest : List Oper} {o : Oper} {a : Act} {Q : Exit → Act → World → Prop} (hgd : o.guard = none) (s x : Operand) (t : TypeId)
    (ho : o.op = .call { callee := .builtin .append, args := #[s, x], argTypes := #[t, t] })
    (base : Nat) (e : TypeId) (i : TypeInfo) (z : Value) (size bytes : Nat) (ht : P.underlying t = some (.slice e)) (hi : P.info? e = some i) (hz : i.zero = some z)
    (hsize : i.size = size) (hby : i.bytes = bytes) (hzs : z.cells.size = size) (hsz : 0 < size)
    (v : Value) (n : Nat) (xs : List Value) (hs : a.eval s = v) (hown : w.ownsRow base e size v n xs)
    (B : Nat) (A : Option Addr) (m c : Nat) (news : List Value) (hx : a.eval x = .slice A m c) (hr : Reads w B size A m news) (h1 : ∀ u ∈ news, u.oneCell' = true)
    (h63 : n + m ≤ maxLen) (hbytes : (n + m) * bytes ≤ 140737488355328) (hbase : base ≤ w.heap.size)
    (h : ∀ v' w', w'.ownsRow base e size v' (n + m) (xs ++ news) → w.grownBy w' v.ownBlock → (v'.ownBlock = v.ownBlock ∨ v'.ownBlock = some w.heap.size) → wpList P ops Q rest (a.put o.dst v') w') : wpList P ops Q (o :: rest) a w :=
  wpList_plain hgd fun _ hK => wp_append_any w s x t ho base e i z size bytes ht hi hz hsize hby hzs hsz v n xs hs hown B A m c news hx hr h1 h63 hbytes hbase fun v' w' h2 h3 h4 => hK _ _ (h v' w' h2 h3 h4)

theorem step_append_any {ops : Array Oper} {o : Oper} {a : Act} {K : Act → World → Prop} {Q : Exit → Act → World → Prop} {E : Prop} (hgd : o.guard = none) (s x : Operand) (t : TypeId)
    (ho : o.op = .call { callee := .builtin .append, args := #[s, x], argTypes := #[t, t] })
    (base : Nat) (e : TypeId) (i : TypeInfo) (z : Value) (size bytes : Nat) (ht : P.underlying t = some (.slice e)) (hi : P.info? e = some i) (hz : i.zero = some z)
    (hsize : i.size = size) (hby : i.bytes = bytes) (hzs : z.cells.size = size) (hsz : 0 < size)
    (v : Value) (n : Nat) (xs : List Value) (hs : a.eval s = v) (hown : w.ownsRow base e size v n xs)
    (B : Nat) (A : Option Addr) (m c : Nat) (news : List Value) (hx : a.eval x = .slice A m c) (hr : Reads w B size A m news) (h1 : ∀ u ∈ news, u.oneCell' = true)
    (h63 : n + m ≤ maxLen) (hbytes : (n + m) * bytes ≤ 140737488355328) (hbase : base ≤ w.heap.size)
    (h : ∀ v' w', w'.ownsRow base e size v' (n + m) (xs ++ news) → w.grownBy w' v.ownBlock → (v'.ownBlock = v.ownBlock ∨ v'.ownBlock = some w.heap.size) → K (a.put o.dst v') w') :
    if Region.wanted o (yielded ops a.tmps) = true then Oper.wp P o a w K Q else E := by
  have hw : Region.wanted o (yielded ops a.tmps) = true := by simp [Region.wanted, hgd]
  rw [if_pos hw]
  exact wp_append_any w s x t ho base e i z size bytes ht hi hz hsize hby hzs hsz v n xs hs hown B A m c news hx hr h1 h63 hbytes hbase h
end

/-! ### bytes -/
def bv (b : UInt8) : Value := .int .u8 (b.toNat : Int)
def bvs (l : List UInt8) : List Value := l.map bv
def S (l : List UInt8) : ByteArray := ⟨l.toArray⟩
theorem S_list (l : List UInt8) : (S l).data.toList = l := rfl
theorem S_toList (l : List UInt8) : (S l).toList = l := by rw [ByteArray.toList_eq]; rfl
attribute [go_sem] S_toList
theorem S_size (l : List UInt8) : (S l).size = l.length := by simp [S, ByteArray.size]
theorem bvs_length (l : List UInt8) : (bvs l).length = l.length := by simp [bvs]
theorem bvs_append (a b : List UInt8) : bvs (a ++ b) = bvs a ++ bvs b := by simp [bvs]
theorem bvs_drop (a : List UInt8) (k : Nat) : (bvs a).drop k = bvs (a.drop k) := by simp [bvs]
theorem bvs_take (a : List UInt8) (k : Nat) : (bvs a).take k = bvs (a.take k) := by simp [bvs]
theorem bvs_one (l : List UInt8) : ∀ u ∈ bvs l, u.oneCell' = true := by
  intro u hu
  obtain ⟨_, _, rfl⟩ := List.mem_map.1 hu
  rfl
theorem bvs_get (l : List UInt8) (k : Nat) (h : k < l.length) : (bvs l)[k]? = some (.int .u8 ((l.getD k 0).toNat : Int)) := by
  simp [bvs, bv, List.getD, h]
theorem bvs_set (l : List UInt8) (k n : Nat) (h : n < 256) : (bvs l).set k (.int .u8 (n : Int)) = bvs (l.set k (UInt8.ofNat n)) := by
  have : bv (UInt8.ofNat n) = .int .u8 (n : Int) := by
    unfold bv
    rw [UInt8.toNat_ofNat', Nat.mod_eq_of_lt (by omega)]
  rw [← this, bvs, bvs, List.map_set]
theorem u8_lt (b : UInt8) : (b.toNat : Int) < 256 ∧ 0 ≤ (b.toNat : Int) := ⟨by have := b.toNat_lt; omega, by omega⟩

def ReadB (w : World) (B : Nat) (A : Option Addr) (l : List UInt8) : Prop :=
  0 < l.length → ∃ b o, A = some ⟨b, o, none⟩ ∧ b < B ∧ ∀ k, k < l.length → w.cell? ⟨b, o + k, none⟩ = some (.int .u8 ((l.getD k 0).toNat : Int))
def OwnB (w : World) (base : Nat) (E : TypeId) (v : Value) (l : List UInt8) : Prop := w.ownsRow base E 1 v l.length (bvs l)

section
variable {w w' : World} {B B' : Nat} {A : Option Addr} {l : List UInt8} {E : TypeId} {v : Value} {base : Nat}
theorem add_zero_ (a : Addr) : a.add 0 = a := by simp [Addr.add]
theorem add_lit_ (b o k : Nat) : (⟨b, o, none⟩ : Addr).add k = ⟨b, o + k, none⟩ := by unfold Addr.add; split <;> simp_all
theorem ReadB.nil : ReadB w B A [] := fun h => absurd h (by simp)
theorem ReadB.head (h : ReadB w B A l) (hk : 0 < l.length) : ∃ b o, A = some ⟨b, o, none⟩ ∧ b < B ∧ w.cell? ⟨b, o, none⟩ = some (.int .u8 ((l.getD 0 0).toNat : Int)) := by
  obtain ⟨b, o, e, hb, hc⟩ := h hk
  exact ⟨b, o, e, hb, hc 0 hk⟩
theorem ReadB.reads (h : ReadB w B A l) : Reads w B 1 A l.length (bvs l) := by
  refine ⟨by simp [bvs], fun hn => ?_⟩
  obtain ⟨b, o, rfl, hb, hc⟩ := h hn
  refine ⟨_, rfl, hb, fun j u hu => ?_⟩
  have hj : j < l.length := by
    rcases Nat.lt_or_ge j l.length with h | h
    · exact h
    · rw [List.getElem?_eq_none (by rw [bvs_length]; exact h)] at hu; cases hu
  rw [add_lit_, hc j hj, ← hu, bvs_get l j hj]
theorem ReadB.of_reads (h : Reads w B 1 A l.length (bvs l)) : ReadB w B A l := by
  intro hn
  obtain ⟨ad, rfl, hb, hc⟩ := h.2 hn
  have h0 := hc 0 _ (bvs_get l 0 hn)
  rw [add_zero_] at h0
  have hs : ad.spot = none := by
    unfold World.cell? at h0
    split at h0
    · split at h0
      · cases h0
      · rename_i hs; simpa using hs
    · cases h0
  obtain ⟨b, o, s⟩ := ad
  simp only at hs
  subst hs
  exact ⟨b, o, rfl, hb, fun k hk => by rw [← add_lit_]; exact hc k _ (bvs_get l k hk)⟩
theorem ReadB.keep (h : ReadB w B A l) (hk : ∀ p : Addr, p.block < B → w'.cell? p = w.cell? p) : ReadB w' B A l := fun hn => by
  obtain ⟨b, o, e, hb, hc⟩ := h hn
  exact ⟨b, o, e, hb, fun k hkk => (hk ⟨b, o + k, none⟩ hb).trans (hc k hkk)⟩
theorem ReadB.below (h : ReadB w B A l) (hb : Below B w w') : ReadB w' B A l := h.keep fun _ hp => hb.cell hp
theorem ReadB.more (h : ReadB w B A l) (hB : B ≤ B') : ReadB w B' A l := fun hn => by
  obtain ⟨b, o, e, hb, hc⟩ := h hn
  exact ⟨b, o, e, Nat.lt_of_lt_of_le hb hB, hc⟩
theorem ReadB.cut (h : ReadB w B A l) {k cap : Nat} (hc : l.length ≤ cap) : ReadB w B (if cap = k then A else A.map (·.add k)) (l.drop k) := fun hn => by
  have hk : k < l.length := by simp at hn; omega
  obtain ⟨b, o, rfl, hb, hcl⟩ := h (by omega)
  rw [if_neg (by omega)]
  refine ⟨b, o + k, by simp [add_lit_], hb, fun j hj => ?_⟩
  have hj' : k + j < l.length := by simp at hj; omega
  rw [Nat.add_assoc, hcl (k + j) hj']
  simp [List.getD]
theorem ReadB.drop {b o : Nat} (h : ReadB w B (some ⟨b, o, none⟩) l) (k : Nat) : ReadB w B (some ⟨b, o + k, none⟩) (l.drop k) := fun hn => by
  have hk : k < l.length := by simp at hn; omega
  obtain ⟨b', o', e, hb, hcl⟩ := h (by omega)
  injection e with e
  injection e with e1 e2
  subst e1 e2
  refine ⟨b, o + k, rfl, hb, fun j hj => ?_⟩
  have hj' : k + j < l.length := by simp at hj; omega
  rw [Nat.add_assoc, hcl (k + j) hj']
  simp [List.getD]
theorem ReadB.take (h : ReadB w B A l) (k : Nat) : ReadB w B A (l.take k) := fun hn => by
  have hl : 0 < l.length := by simp at hn; omega
  obtain ⟨b, o, e, hb, hc⟩ := h hl
  refine ⟨b, o, e, hb, fun j hj => ?_⟩
  have hj' : j < k ∧ j < l.length := by simp at hj; omega
  rw [hc j hj'.2]
  simp [List.getD, hj'.1]
theorem ReadB.of_own {c : Nat} (h : OwnB w base E (.slice A l.length c) l) : ReadB w w.heap.size A l := ReadB.of_reads (Reads.of_own h)
theorem OwnB.opens (h : OwnB w base E v l) : ∃ A c, v = .slice A l.length c ∧ l.length ≤ c ∧ c ≤ 9223372036854775807 ∧ ReadB w w.heap.size A l ∧ (∀ ad, A = some ad → base ≤ ad.block ∧ ad.block < w.heap.size) := by
  rcases h.2 with ⟨rfl, hn⟩ | ⟨g, cap, cur, rfl, hb, hh, hnc, hm, _⟩
  · have hl : l = [] := List.eq_nil_of_length_eq_zero hn
    subst hl
    exact ⟨none, 0, rfl, by simp, by omega, ReadB.nil, by intro _ h; cases h⟩
  · refine ⟨_, _, rfl, hnc, by simpa [maxLen] using hm, ReadB.of_reads (Reads.of_own h), ?_⟩
    intro ad had
    injection had with had
    subst had
    exact ⟨hb, (Array.getElem?_eq_some_iff.1 hh).1⟩
theorem OwnB.row (h : OwnB w base E v l) (hl : 0 < l.length) : ∃ g c, v = .slice (some ⟨g, 0, none⟩) l.length c ∧ base ≤ g ∧ g < w.heap.size ∧ l.length ≤ c ∧ c ≤ 9223372036854775807 := by
  rcases h.2 with ⟨rfl, hn⟩ | ⟨g, cap, cur, rfl, hb, hh, hnc, hm, _⟩
  · omega
  · exact ⟨g, cap, rfl, hb, (Array.getElem?_eq_some_iff.1 hh).1, hnc, by simpa [maxLen] using hm⟩
theorem OwnB.cell {g c k : Nat} (h : OwnB w base E (.slice (some ⟨g, 0, none⟩) l.length c) l) (hk : k < l.length) : w.cell? ⟨g, k, none⟩ = some (.int .u8 ((l.getD k 0).toNat : Int)) := by
  rw [World.ownsRow.cellAt h k (by omega), bvs_get l k hk]
theorem OwnB.frz {g c : Nat} (h : OwnB w base E (.slice (some ⟨g, 0, none⟩) l.length c) l) (k : Nat) : w.frozen? ⟨g, k, none⟩ = false := World.ownsRow.frozenAt h k
theorem OwnB.put {g c : Nat} (h : OwnB w base E (.slice (some ⟨g, 0, none⟩) l.length c) l) (k n : Nat) (hn : n < 256) : OwnB (w.setCell ⟨g, k, none⟩ (.int .u8 (n : Int))) base E (.slice (some ⟨g, 0, none⟩) l.length c) (l.set k (UInt8.ofNat n)) := by
  have := (World.ownsRow.stored h k (.int .u8 (n : Int))).1
  rw [bvs_set l k n hn] at this
  unfold OwnB
  rw [List.length_set]
  exact this
theorem OwnB.drew (h : OwnB w base E v l) : OwnB w.drew base E v l := h
theorem OwnB.drewN (h : OwnB w base E v l) (n : Nat) : OwnB (w.drewN n) base E v l := h
theorem OwnB.alloc (h : OwnB w base E v l) (o : Obj) : OwnB (w.alloc o) base E v l := World.ownsRow.alloc h o
theorem OwnB.keptB (h : OwnB w base E v l) (hb : Below w.heap.size w w') : OwnB w' base E v l :=
  World.ownsRow.kept (row := none) h ⟨hb.os, hb.tape, hb.output, hb.size, fun k hk _ => hb.block k hk⟩ (by cases v.ownBlock <;> simp)
theorem OwnB.nil : OwnB w base E (.slice none 0 0) [] := ⟨by simp [bvs], .inl ⟨rfl, rfl⟩⟩
theorem OwnB.lit0 (w : World) (E : TypeId) (base g : Nat) (hg : g = w.heap.size) (hb : base ≤ w.heap.size) : OwnB (w.alloc (.cells #[] E)) base E (.slice (some ⟨g, 0, none⟩) 0 0) [] := by
  subst hg
  exact World.ownsRow_lit w #[] 0 hb (by unfold maxLen; omega) rfl
theorem OwnB.weak {b2 : Nat} (h : OwnB w base E v l) (hb : b2 ≤ base) : OwnB w b2 E v l := by
  refine ⟨h.1, ?_⟩
  rcases h.2 with hh | ⟨g, cap, cur, e, hbb, r⟩
  · exact .inl hh
  · exact .inr ⟨g, cap, cur, e, by omega, r⟩
theorem OwnB.ge (h : OwnB w base E v l) : ∀ k, v.ownBlock = some k → base ≤ k := fun k hk => (World.ownsRow.lt h k hk).1
end

section
variable {P : Program}
theorem run_strof (w : World) (src e : TypeId) (hs : P.underlying src = some (.slice e)) (he : P.underlying e = some (.int .u8)) (A : Option Addr) (c B : Nat) (l : List UInt8) (h : ReadB w B A l)
    (dst : TypeId) (hd : P.underlying dst = some .string) : (convert src dst (.slice A l.length c)).run P w = .ok (.string (S l)) w := by
  rw [run_convert_bytes_string w src dst e A l.length c hs he hd]
  rcases A with _ | ad
  · have : l = [] := by
      rcases l with _ | ⟨x, l⟩
      · rfl
      · obtain ⟨_, _, hx, _⟩ := h (by simp)
        cases hx
    subst this
    simp [Conv.bytesToString, S]
    rfl
  · have hcell : ∀ j v, (bvs l)[j]? = some v → w.cell? (ad.add j) = some v := by
      intro j v hj
      rcases Nat.eq_zero_or_pos l.length with h0 | h0
      · have hl : l = [] := List.eq_nil_of_length_eq_zero h0
        subst hl
        simp [bvs] at hj
      · obtain ⟨ad', e1, _, hc⟩ := h.reads.2 h0
        injection e1 with e1
        subst e1
        exact hc j v hj
    have hl := run_loadCells_list (P := P) w ad (bvs l) hcell
    rw [run_bytesToString w ad l.length c (l.map fun b => (b.toNat : Int)) (by
      rw [bvs_length] at hl
      rw [hl]
      simp [bvs, bv, Function.comp_def]), foldl_push_bytes]
    simp [S, ByteArray.empty, ByteArray.emptyWithCapacity, Function.comp_def]
    rfl
end
/-! ### appends of bytes -/
theorem ReadB.lit1 (w : World) (E : TypeId) (x : Int) (b : UInt8) (h : x = (b.toNat : Int)) : ReadB (w.alloc (.cells #[.int .u8 x] E)) (w.heap.size + 1) (some ⟨w.heap.size, 0, none⟩) [b] := by
  intro _
  refine ⟨w.heap.size, 0, rfl, by omega, fun k hk => ?_⟩
  have : k = 0 := by simp at hk; omega
  subst this
  rw [cell_of_row _ w.heap.size 0 #[.int .u8 x] E (0, 0) (heap_alloc_new w _), h]
  rfl
def IsByte (P : Program) (E : TypeId) (i : TypeInfo) : Prop := P.info? E = some i ∧ i.zero = some (.int .u8 0) ∧ i.size = 1 ∧ i.bytes = 1
theorem isByte_of {P : Program} {E : TypeId} (h : (P.info? E).map (fun i => (i.zero, i.size, i.bytes)) = some (some (.int .u8 0), 1, 1)) : ∃ i, IsByte P E i := by
  obtain ⟨i, a, b, c, d⟩ := info_parts h
  exact ⟨i, a, b, c, d⟩
theorem wpList_appB {P : Program} (w : World) {ops : Array Oper} {rest : List Oper} {o : Oper} {a : Act} {Q : Exit → Act → World → Prop} (hgd : o.guard = none) (s x : Operand) (t : TypeId)
    (ho : o.op = .call { callee := .builtin .append, args := #[s, x], argTypes := #[t, t] })
    (base : Nat) (E : TypeId) (i : TypeInfo) (ht : P.underlying t = some (.slice E)) (hi : IsByte P E i)
    (v : Value) (l : List UInt8) (hs : a.eval s = v) (hown : OwnB w base E v l)
    (B : Nat) (A : Option Addr) (m c : Nat) (r : List UInt8) (hx : a.eval x = .slice A m c) (hm : m = r.length) (hr : ReadB w B A r)
    (hbytes : l.length + r.length ≤ 140737488355328) (hbase : base ≤ w.heap.size)
    (h : ∀ v' w', OwnB w' base E v' (l ++ r) → w.grownBy w' v.ownBlock → (v'.ownBlock = v.ownBlock ∨ v'.ownBlock = some w.heap.size) → Below base w w' → wpList P ops Q rest (a.put o.dst v') w') : wpList P ops Q (o :: rest) a w := by
  subst hm
  refine wpList_append_any w hgd s x t ho base E i (.int .u8 0) 1 1 ht hi.1 hi.2.1 hi.2.2.1 hi.2.2.2 rfl (by omega) v l.length (bvs l) hs hown B A r.length c (bvs r) hx hr.reads (bvs_one r) (by unfold maxLen; omega) (by omega) hbase ?_
  intro v' w' h1 h2 h3
  refine h v' w' ?_ h2 h3 ((Below.refl base w).grown h2 hbase (fun k hk => (World.ownsRow.lt hown k hk).1))
  unfold OwnB
  rw [List.length_append, bvs_append]
  exact h1
/-! ### bits at int64 -/
theorem ofInt_i64 (a : Nat) (ha : a < 9223372036854775808) : (BitVec.ofInt 64 (a : Int)).toNat = a := by
  rw [BitVec.ofInt_natCast, BitVec.toNat_ofNat]; exact Nat.mod_eq_of_lt (by omega)
theorem i64_and_nat (a b : Nat) (ha : a < 9223372036854775808) (hb : b < 9223372036854775808) : bits .and .i64 (a : Int) (b : Int) = ((a &&& b : Nat) : Int) := by
  have hx : a &&& b < 2 ^ 63 := Nat.and_lt_two_pow _ (by omega)
  show IntKind.i64.wrap ((BitVec.ofInt 64 (a : Int) &&& BitVec.ofInt 64 (b : Int)).toNat : Int) = _
  rw [BitVec.toNat_and, ofInt_i64 a ha, ofInt_i64 b hb, IntKind.wrap_i64]
  omega
theorem i64_or_nat (a b : Nat) (ha : a < 9223372036854775808) (hb : b < 9223372036854775808) : bits .or .i64 (a : Int) (b : Int) = ((a ||| b : Nat) : Int) := by
  have hx : a ||| b < 2 ^ 63 := Nat.or_lt_two_pow (by omega) (by omega)
  show IntKind.i64.wrap ((BitVec.ofInt 64 (a : Int) ||| BitVec.ofInt 64 (b : Int)).toNat : Int) = _
  rw [BitVec.toNat_or, ofInt_i64 a ha, ofInt_i64 b hb, IntKind.wrap_i64]
  omega
theorem ofInt_u8 (a : Nat) (ha : a < 256) : (BitVec.ofInt 8 (a : Int)).toNat = a := by
  rw [BitVec.ofInt_natCast, BitVec.toNat_ofNat]; exact Nat.mod_eq_of_lt (by omega)
theorem u8_or_nat (a b : Nat) (ha : a < 256) (hb : b < 256) : bits .or .u8 (a : Int) (b : Int) = ((a ||| b : Nat) : Int) := by
  have hx : a ||| b < 2 ^ 8 := Nat.or_lt_two_pow (by omega) (by omega)
  show IntKind.u8.wrap ((BitVec.ofInt 8 (a : Int) ||| BitVec.ofInt 8 (b : Int)).toNat : Int) = _
  rw [BitVec.toNat_or, ofInt_u8 a ha, ofInt_u8 b hb, IntKind.wrap_u8]
  omega
theorem u8_xor_nat (a b : Nat) (ha : a < 256) (hb : b < 256) : bits .xor .u8 (a : Int) (b : Int) = ((a ^^^ b : Nat) : Int) := by
  have hx : a ^^^ b < 2 ^ 8 := Nat.xor_lt_two_pow (by omega) (by omega)
  show IntKind.u8.wrap ((BitVec.ofInt 8 (a : Int) ^^^ BitVec.ofInt 8 (b : Int)).toNat : Int) = _
  rw [BitVec.toNat_xor, ofInt_u8 a ha, ofInt_u8 b hb, IntKind.wrap_u8]
  omega
theorem shr_bytes (N m : Nat) (hm : m ≤ 7) : Op.shift .shr .i64 (N : Int) .i64 (8 * (m : Int)) = pure (.int .i64 ((N / 256 ^ m : Nat) : Int)) := by
  rw [shift_shr _ _ _ _ (by omega) (by simp [IntKind.bits]; omega)]
  have e : (8 * (m : Int)).toNat = 8 * m := by omega
  rw [e, Int.pow_mul]
  simp
theorem shr_and (N m : Nat) (hN : N < 9223372036854775808) : bits .and .i64 ((N : Int) / 2 ^ (8 * m)) 255 % 256 = ((N / 256 ^ m % 256 : Nat) : Int) := by
  have e : (N : Int) / 2 ^ (8 * m) = ((N / 256 ^ m : Nat) : Int) := by rw [Int.pow_mul]; simp
  have hle : N / 256 ^ m ≤ N := Nat.div_le_self _ _
  rw [e, show (255 : Int) = ((255 : Nat) : Int) from rfl, i64_and_nat _ _ (by omega) (by omega), show (255 : Nat) = 2 ^ 8 - 1 from rfl, Nat.and_two_pow_sub_one_eq_mod]
  omega
theorem or_byte (V c : Nat) (hV : V < 18014398509481984) (hc : (c : Int) < 256) : bits .or .i64 ((V : Int) * 256) (c : Int) = ((V * 256 + c : Nat) : Int) := by
  have h := i64_or_nat (V * 256) c (by omega) (by omega)
  rw [show ((V : Int) * 256) = ((V * 256 : Nat) : Int) by omega, h]
  have := Nat.two_pow_add_eq_or_of_lt (i := 8) (b := c) (by omega) V
  rw [Nat.mul_comm V 256, show (256 : Nat) = 2 ^ 8 from rfl, ← this]
/-- one change behind another, of what lies above -/
theorem bthen {w w1 w2 : World} (h : Below w.heap.size w w1) (k : Below w1.heap.size w1 w2) : Below w.heap.size w w2 := h.trans (k.mono h.size)
end Ba
end Go.Proofs.YtiofkhjpknfkgaaDoor

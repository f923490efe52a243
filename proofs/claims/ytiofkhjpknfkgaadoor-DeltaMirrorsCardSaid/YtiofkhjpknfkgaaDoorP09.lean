/- A new file that was searched, put, fed and applied: plain laws. -/
import Derived.Test.YtiofkhjpknfkgaaDoorP01
import Derived.Test.YtiofkhjpknfkgaaDoorP02
import Derived.Test.YtiofkhjpknfkgaaDoorP03
import Derived.Test.YtiofkhjpknfkgaaDoorP04
import Derived.Test.YtiofkhjpknfkgaaDoorP05
import Derived.Test.YtiofkhjpknfkgaaDoorP06
import Derived.Test.YtiofkhjpknfkgaaDoorP07
import Derived.Test.YtiofkhjpknfkgaaDoorP08
import Derived.Test.YtiofkhjpknfkgaaDoorProg
import Derived.KernelRfl
namespace Go.Proofs.YtiofkhjpknfkgaaDoor
namespace Ms
open Tm Dm Bk Ro Sm
set_option linter.unusedVariables false
def neat (o : O) : Prop := (o.copy = true → o.data = []) ∧ (o.copy = false → o.pos = 0 ∧ o.n = 0)
theorem neat_lit (d : List UInt8) : neat (lit d) := ⟨by simp [lit], by simp [lit]⟩
theorem neat_cp (a n : Int) : neat (cp a n) := ⟨by simp [cp], by simp [cp]⟩
theorem neat_whole (b : List UInt8) : ∀ x ∈ whole b, neat x := by
  intro x hx
  unfold whole at hx
  split at hx
  · simp at hx
  · rw [List.mem_singleton] at hx
    subst hx
    exact neat_lit b
theorem neat_put1 (z : Nat) (b : List UInt8) (out : List O) (frm i : Nat) (a : Int) (h : ∀ x ∈ out, neat x) : ∀ x ∈ put1 z b out frm i a, neat x := by
  intro x hx
  unfold put1 at hx
  split at hx
  · rename_i hj
    obtain ⟨rfl, o, ho, hc, hp⟩ := joins_spec hj
    have hsp := last_split out o ho
    rw [grow_eq out o z ho] at hx
    rw [hsp] at h
    rcases List.mem_append.1 hx with hx | hx
    · exact h x (List.mem_append_left _ hx)
    · rw [List.mem_singleton] at hx
      subst hx
      have := h o (List.mem_append_right _ (List.mem_singleton.2 rfl))
      exact ⟨fun h1 => this.1 h1, fun h1 => by simp only at h1; rw [hc] at h1; cases h1⟩
  · rcases List.mem_append.1 hx with hx | hx
    · rcases List.mem_append.1 hx with hx | hx
      · exact h x hx
      · exact neat_whole _ x hx
    · rw [List.mem_singleton] at hx
      subst hx
      exact neat_cp a z
theorem search_neat (F : List UInt8 → Int × Bool) (z : Nat) (b : List UInt8) (hz : 1 ≤ z) : ∀ x ∈ search F z b, neat x := by
  obtain ⟨i', hI, -⟩ := srch_ind F z b hz (fun out frm i => ∀ x ∈ out, neat x) (fun out frm i h hib hf => neat_put1 z b out frm i _ h) (fun out frm i h hib hf => h) (b.length + 1) [] 0 0 (by simp) (by omega)
  intro x hx
  unfold search fin at hx
  split at hx
  · exact neat_whole b x hx
  · rcases List.mem_append.1 hx with hx | hx
    · exact hI x hx
    · exact neat_whole _ x hx
section
variable {α : Type} {S : List UInt8 → α} {old b : List UInt8} {z : Nat}
theorem may_of {o : O} {p : Nat} (hz : 1 ≤ z) (h : okAt S old b z o p) (hn : neat o) : may o old.length = true ∧ makes o = (osize o : Int) ∧ p + osize o ≤ b.length := by
  unfold okAt at h
  unfold may makes osize
  cases hc : o.copy with
  | true =>
    rw [if_pos hc] at h
    obtain ⟨N, A, e1, e2, h1, h2, h3, h4, h5, h6⟩ := h
    have hd := hn.1 hc
    simp only [if_true, e1, e2, hd]
    refine ⟨?_, by simp, by simpa using h5⟩
    simp only [List.length_nil, decide_true, Bool.true_and, Bool.and_eq_true, decide_eq_true_eq]
    omega
  | false =>
    rw [if_neg (by rw [hc]; simp)] at h
    obtain ⟨h1, h2, h3⟩ := h
    obtain ⟨h4, h5⟩ := hn.2 hc
    simp only [Bool.false_eq_true, if_false, h4, h5, decide_true, Bool.and_true, decide_eq_true_eq]
    exact ⟨h1, by first | trivial | rfl, h2⟩
theorem tiled_may (hz : 1 ≤ z) : ∀ (l : List O) (p q : Nat), tiled S old b z l p q → (∀ x ∈ l, neat x) → (∀ x ∈ l, may x old.length = true ∧ makes x ≤ (q : Int) - p) ∧ total l = (q : Int) - p ∧ l.length ≤ q - p
  | [], p, q, h, _ => by
    have : p = q := h
    subst this
    simp [total]
  | o :: l, p, q, h, hn => by
    obtain ⟨h1, h2⟩ := h
    obtain ⟨i1, i2, i3⟩ := tiled_may hz l _ q h2 (fun x hx => hn x (by simp [hx]))
    obtain ⟨m1, m2, m3⟩ := may_of hz h1 (hn o (by simp))
    have m4 := may_makes m1
    have hpos := total_nonneg old.length l (fun x hx => (i1 x hx).1)
    rw [total_cons]
    refine ⟨fun x hx => ?_, by omega, by rw [List.length_cons]; omega⟩
    rcases List.mem_cons.1 hx with rfl | hx
    · exact ⟨m1, by omega⟩
    · exact ⟨(i1 x hx).1, by have := (i1 x hx).2; omega⟩
theorem room_of : ∀ (l : List O) (r : Int), (∀ x ∈ l, 1 ≤ makes x) → total l ≤ r → room l r = true
  | [], r, _, _ => rfl
  | x :: t, r, h, hr => by
    have hp : 0 ≤ total t := by
      clear hr
      have h2 : ∀ y ∈ t, 1 ≤ makes y := fun y hy => h y (by simp [hy])
      clear h
      induction t with
      | nil => simp [total]
      | cons y t ih =>
        have := h2 y (by simp)
        have := ih (fun z hz => h2 z (by simp [hz]))
        rw [total_cons]
        omega
    rw [total_cons] at hr
    unfold room
    rw [if_neg (by omega)]
    exact room_of t _ (fun y hy => h y (by simp [hy])) (by omega)
theorem check_of {l : List O} {old : Int} (h4 : l.length ≤ 4096) (hm : ∀ x ∈ l, may x old = true) (ht : total l ≤ 65536) : check l old = 0 := by
  unfold Dm.check
  rw [if_neg (by omega), if_neg, if_neg]
  · rw [room_of l 65536 (fun x hx => may_makes (hm x hx)) ht]; simp
  · have : l.all (may · old) = true := List.all_eq_true.2 hm
    rw [this]; simp
theorem made_len : ∀ (l : List O), (∀ x ∈ l, may x old.length = true) → ((made old l).length : Int) = total l
  | [], _ => by simp [made, total]
  | x :: t, h => by
    have h1 := piece_len (old := old) (h x (by simp))
    have h2 := made_len t (fun y hy => h y (by simp [hy]))
    have e : made old (x :: t) = piece old x ++ made old t := rfl
    rw [e, total_cons, List.length_append]
    omega
theorem cut_get (b : List UInt8) (i j t : Nat) (h : t < j - i) : (cut b i j)[t]? = b[i + t]? := by
  unfold cut
  rw [List.getElem?_take, if_pos h, List.getElem?_drop]
/-- equal block for block: equal -/
theorem blocks_eq (hz : 1 ≤ z) {A p N : Nat} (h : ∀ k, k * z < N → cut old (A + k * z) (A + k * z + z) = cut b (p + k * z) (p + k * z + z)) (hA : A + N ≤ old.length) (hp : p + N ≤ b.length) : cut old A (A + N) = cut b p (p + N) := by
  apply List.ext_getElem?
  intro t
  by_cases ht : t < N
  · have hk := h (t / z) (Nat.lt_of_le_of_lt (Nat.div_mul_le_self t z) ht)
    have hd := Nat.div_add_mod t z
    have hm := Nat.mod_lt t (show z > 0 by omega)
    rw [Nat.mul_comm] at hd
    have e := congrArg (fun l => l[t % z]?) hk
    rw [cut_get _ _ _ _ (by omega), cut_get _ _ _ _ (by omega)] at e
    rw [cut_get _ _ _ _ (by omega), cut_get _ _ _ _ (by omega)]
    rw [show A + t = A + t / z * z + t % z by omega, show p + t = p + t / z * z + t % z by omega]
    exact e
  · have h1 : (cut old A (A + N)).length = N := by rw [cut_len old A (A + N) (by omega) hA]; omega
    have h2 : (cut b p (p + N)).length = N := by rw [cut_len b p (p + N) (by omega) hp]; omega
    rw [List.getElem?_eq_none (by omega), List.getElem?_eq_none (by omega)]
theorem made_of (hz : 1 ≤ z) (H : ∀ i k, i % z = 0 → i + z ≤ old.length → k + z ≤ b.length → S (cut old i (i + z)) = S (cut b k (k + z)) → cut old i (i + z) = cut b k (k + z)) : ∀ (l : List O) (p q : Nat), tiled S old b z l p q → q ≤ b.length → made old l = cut b p q
  | [], p, q, h, _ => by
    have : p = q := h
    subst this
    simp [made, cut]
  | o :: l, p, q, h, hq => by
    obtain ⟨h1, h2⟩ := h
    have ih := made_of hz H l _ q h2 hq
    have hpq : p + osize o ≤ q := by
      have := tiled_take l _ q 0 h2
      simp [copied, literal] at this
      omega
    have e : made old (o :: l) = piece old o ++ made old l := rfl
    have ep : piece old o = cut b p (p + osize o) := by
      unfold okAt at h1
      unfold piece osize
      cases hc : o.copy with
      | true =>
        rw [if_pos hc] at h1
        obtain ⟨N, A, e1, e2, g1, g2, g3, g4, g5, g6⟩ := h1
        simp only [if_true, e1, e2, Int.toNat_natCast]
        have hb : ∀ k, k * z < N → cut old (A + k * z) (A + k * z + z) = cut b (p + k * z) (p + k * z + z) := fun k hk => by
          have hkz : k * z + z ≤ N := by
            obtain ⟨mm, hmm⟩ := Nat.dvd_of_mod_eq_zero g2
            rw [Nat.mul_comm] at hmm
            rw [hmm] at hk ⊢
            have h6 : k < mm := Nat.lt_of_mul_lt_mul_right hk
            have h7 := Nat.mul_le_mul_right z h6
            rw [Nat.succ_mul] at h7
            exact h7
          exact H _ _ (by rw [Nat.add_mul_mod_self_right]; exact g3) (by omega) (by omega) (g6 k hk)
        have := blocks_eq hz hb g4 g5
        rw [← this]
        unfold cut
        rw [Nat.add_sub_cancel_left]
      | false =>
        rw [if_neg (by rw [hc]; simp)] at h1
        simp only [Bool.false_eq_true, if_false]
        exact h1.2.2
    rw [e, ih, ep]
    unfold cut
    rw [Nat.add_sub_cancel_left]
    have e2 : b.drop (p + osize o) = (b.drop p).drop (osize o) := by rw [List.drop_drop]
    rw [e2, show q - p = osize o + (q - (p + osize o)) by omega, List.take_add]
end
theorem put_small (l : List O) (h4 : l.length ≤ 4096) (hd : ∀ x ∈ l, x.data.length ≤ 65536) : (put l).length ≤ 1099511627776 := by
  have h : ∀ l : List O, (∀ x ∈ l, x.data.length ≤ 65536) → (put l).length ≤ l.length * 65600 := by
    intro l
    induction l with
    | nil => intro _; simp [Dm.put]
    | cons x t ih =>
      intro h
      have h1 := ih (fun y hy => h y (by simp [hy]))
      have h2 := h x (by simp)
      have e : put (x :: t) = putx x ++ put t := rfl
      rw [e, List.length_append, List.length_cons, Nat.add_mul]
      have h3 : (putx x).length ≤ 65600 := by
        unfold putx
        split
        · have := Fm.num_len x.pos
          have := Fm.num_len x.n
          simp
          omega
        · unfold Fm.text
          have := Fm.num_len (x.data.length : Int)
          simp
          omega
      omega
  have := h l hd
  have : l.length * 65600 ≤ 4096 * 65600 := Nat.mul_le_mul_right _ h4
  omega
/-- what is searched may be, makes as many bytes as the new file has, and comes back as it was put -/
theorem mirror_facts (z : Nat) (old b : List UInt8) (hz : 1 ≤ z) (hb : b.length ≤ 2000) (ho : old.length ≤ 2000) :
    Dm.check (search (findB z (signK z old (old.length / z))) z b) old.length = 0 ∧ (search (findB z (signK z old (old.length / z))) z b).length ≤ 4096 ∧ (∀ x ∈ search (findB z (signK z old (old.length / z))) z b, x.data.length ≤ 65536) ∧
    (made old (search (findB z (signK z old (old.length / z))) z b)).length = b.length ∧
    (∃ d, feed old.length ⟨0, [], 0⟩ (put (search (findB z (signK z old (old.length / z))) z b)) = (d, search (findB z (signK z old (old.length / z))) z b, 0)) ∧
    ((∀ i k, i % z = 0 → i + z ≤ old.length → k + z ≤ b.length → sha (cut old i (i + z)) = sha (cut b k (k + z)) → cut old i (i + z) = cut b k (k + z)) → made old (search (findB z (signK z old (old.length / z))) z b) = b) := by
  have ht := tells_sign z old b hz hb
  have hn := search_neat (findB z (signK z old (old.length / z))) z b hz
  generalize search (findB z (signK z old (old.length / z))) z b = l at *
  obtain ⟨h1, h2, h3⟩ := tiled_may hz l 0 b.length ht hn
  have hm : ∀ x ∈ l, may x old.length = true := fun x hx => (h1 x hx).1
  refine ⟨check_of (by omega) hm (by omega), by omega, fun x hx => ?_, ?_, ?_, fun H => ?_⟩
  · have h4 := hm x hx
    have h5 := (h1 x hx).2
    unfold makes at h5
    cases hc : x.copy with
    | true => rw [(may_copy hc h4).1]; simp
    | false => rw [hc] at h5; simp at h5; omega
  · have := made_len (old := old) l hm
    omega
  · obtain ⟨l3, l4, r2, g1, g2⟩ := mid_step (old := old.length) (by omega) (mid_start l) (fun x hx => ⟨hm x hx, by have := (h1 x hx).2; omega⟩) (by omega) (put l).length
    rw [List.drop_length] at g2
    obtain ⟨g3, g4⟩ := mid_end g2
    rw [List.nil_append] at g3
    subst g3 g4
    rw [List.take_length] at g1
    have e0 : total [] = 0 := rfl
    rw [e0] at g1
    exact ⟨_, g1⟩
  · rw [made_of hz (fun i k a1 a2 a3 a4 => H i k a1 a2 a3 (congrArg Prod.snd a4)) l 0 b.length ht (Nat.le_refl _)]
    unfold cut
    simp
end Ms
end Go.Proofs.YtiofkhjpknfkgaaDoor
/- Operations in memory: rows of four cells, each with bytes of its own. -/
namespace Go.Proofs.YtiofkhjpknfkgaaDoor
namespace Os_
open Go.RowKit Ba Tm
set_option linter.unusedVariables false
/-- an operation, where its bytes lie, and the room there -/
abbrev Ow := O × Option Addr × Nat
def opv (x : Ow) : List Value := [.bool x.1.copy, .int .i64 x.1.pos, .int .i64 x.1.n, .slice x.2.1 x.1.data.length x.2.2]
theorem opv_len (x : Ow) : (opv x).length = 4 := rfl
theorem opv_one (x : Ow) : ∀ v ∈ opv x, v.oneCell' = true := by
  intro v hv
  simp only [opv, List.mem_cons, List.not_mem_nil, or_false] at hv
  rcases hv with rfl | rfl | rfl | rfl <;> rfl
def WfO (w : World) (B : Nat) (x : Ow) : Prop := (-9223372036854775808 ≤ x.1.pos ∧ x.1.pos ≤ 9223372036854775807) ∧ (-9223372036854775808 ≤ x.1.n ∧ x.1.n ≤ 9223372036854775807) ∧ x.1.data.length ≤ x.2.2 ∧ x.2.2 ≤ 9223372036854775807 ∧ ReadB w B x.2.1 x.1.data
theorem WfO.below {w w' : World} {B : Nat} {x : Ow} (h : WfO w B x) (hb : Below B w w') : WfO w' B x := ⟨h.1, h.2.1, h.2.2.1, h.2.2.2.1, h.2.2.2.2.below hb⟩
theorem WfO.more {w : World} {B B' : Nat} {x : Ow} (h : WfO w B x) (hB : B ≤ B') : WfO w B' x := ⟨h.1, h.2.1, h.2.2.1, h.2.2.2.1, h.2.2.2.2.more hB⟩
/-- operations that are read -/
def ReadO (w : World) (B : Nat) (A : Option Addr) (L : List Ow) : Prop := ReadRow opv 4 w B A L ∧ ∀ x ∈ L, WfO w B x
def ops (L : List Ow) : List O := L.map (·.1)
theorem ops_len (L : List Ow) : (ops L).length = L.length := by simp [ops]
theorem ReadO.nil {w : World} {B : Nat} {A : Option Addr} : ReadO w B A [] := ⟨ReadRow.nil, fun x h => absurd h (by simp)⟩
theorem ReadO.below {w w' : World} {B : Nat} {A : Option Addr} {L : List Ow} (h : ReadO w B A L) (hb : Below B w w') : ReadO w' B A L := ⟨h.1.below hb, fun x hx => (h.2 x hx).below hb⟩
theorem ReadO.more {w : World} {B B' : Nat} {A : Option Addr} {L : List Ow} (h : ReadO w B A L) (hB : B ≤ B') : ReadO w B' A L := ⟨h.1.more hB, fun x hx => (h.2 x hx).more hB⟩
end Os_
end Go.Proofs.YtiofkhjpknfkgaaDoor
/- Operations of the call's own: a row of its own, whose bytes lie in blocks of bytes. -/
namespace Go.Proofs.YtiofkhjpknfkgaaDoor
namespace Os_
open Go.RowKit Ba Tm
set_option linter.unusedVariables false
/-- bytes that lie in a block of bytes -/
def RT (w : World) (A : Option Addr) (l : List UInt8) : Prop :=
  0 < l.length → ∃ b o cs, A = some ⟨b, o, none⟩ ∧ Blk w b 5 cs ∧ ∀ k, k < l.length → w.cell? ⟨b, o + k, none⟩ = some (.int .u8 ((l.getD k 0).toNat : Int))
section
variable {w w' : World} {A : Option Addr} {l : List UInt8}
theorem RT.nil : RT w A [] := fun h => absurd h (by simp)
theorem RT.readB (h : RT w A l) : ReadB w w.heap.size A l := fun hn => by
  obtain ⟨b, o, cs, e, hb, hc⟩ := h hn
  exact ⟨b, o, e, hb.lt, hc⟩
theorem RT.of_own {base c : Nat} (h : OwnB w base 5 (.slice A l.length c) l) : RT w A l := fun hn => by
  rcases h.2 with ⟨hv, h0⟩ | ⟨g, cap, cur, hv, _, hh, _⟩
  · omega
  · injection hv with hA _ _
    subst hA
    exact ⟨g, 0, cur, rfl, hh, fun k hk => by rw [Nat.zero_add]; exact OwnB.cell (c := c) h hk⟩
theorem RT.below (h : RT w A l) (hb : Below w.heap.size w w') : RT w' A l := fun hn => by
  obtain ⟨b, o, cs, e, hB, hc⟩ := h hn
  exact ⟨b, o, cs, e, hB.below hb hB.lt, fun k hk => (hb.cell (p := ⟨b, o + k, none⟩) hB.lt).trans (hc k hk)⟩
theorem RT.row {row : Option Nat} (h : RT w A l) (hg : w.grownBy w' row) (hB : ∀ g, row = some g → ∃ t cs, Blk w g t cs ∧ 5 ≠ t) : RT w' A l := fun hn => by
  obtain ⟨b, o, cs', e, hb, hc⟩ := h hn
  have hbg : some b ≠ row := fun e2 => by
    obtain ⟨t, cs, h1, h2⟩ := hB b e2.symm
    exact hb.ne_ h1 h2 rfl
  exact ⟨b, o, cs', e, hb.grown hg hbg, fun k hk => (World.cell?_of_block (hg.block b hb.lt hbg)).trans (hc k hk)⟩
theorem RT.drop {b o : Nat} (h : RT w (some ⟨b, o, none⟩) l) (k : Nat) : RT w (some ⟨b, o + k, none⟩) (l.drop k) := fun hn => by
  have hk : k < l.length := by simp at hn; omega
  obtain ⟨b', o', cs, e, hb, hcl⟩ := h (by omega)
  injection e with e
  injection e with e1 e2
  subst e1 e2
  refine ⟨b, o + k, cs, rfl, hb, fun j hj => ?_⟩
  have hj' : k + j < l.length := by simp at hj; omega
  rw [Nat.add_assoc, hcl (k + j) hj']
  simp [List.getD]
end
def WfT (w : World) (x : Ow) : Prop := (-9223372036854775808 ≤ x.1.pos ∧ x.1.pos ≤ 9223372036854775807) ∧ (-9223372036854775808 ≤ x.1.n ∧ x.1.n ≤ 9223372036854775807) ∧ x.1.data.length ≤ x.2.2 ∧ x.2.2 ≤ 9223372036854775807 ∧ RT w x.2.1 x.1.data
theorem WfT.wf {w : World} {x : Ow} (h : WfT w x) : WfO w w.heap.size x := ⟨h.1, h.2.1, h.2.2.1, h.2.2.2.1, h.2.2.2.2.readB⟩
theorem WfT.below {w w' : World} {x : Ow} (h : WfT w x) (hb : Below w.heap.size w w') : WfT w' x := ⟨h.1, h.2.1, h.2.2.1, h.2.2.2.1, h.2.2.2.2.below hb⟩
theorem WfT.row {w w' : World} {x : Ow} {row : Option Nat} (h : WfT w x) (hg : w.grownBy w' row) (hB : ∀ g, row = some g → ∃ t cs, Blk w g t cs ∧ 5 ≠ t) : WfT w' x := ⟨h.1, h.2.1, h.2.2.1, h.2.2.2.1, h.2.2.2.2.row hg hB⟩
/-- operations of the call's own -/
def OwnO (w : World) (base : Nat) (v : Value) (L : List Ow) : Prop := OwnRow opv 4 w base 40 v L ∧ ∀ x ∈ L, WfT w x
section
variable {w w' : World} {base : Nat} {v : Value} {L : List Ow}
theorem op_ne : (5 : TypeId) ≠ 40 := by decide
theorem OwnO.nil : OwnO w base (.slice none 0 0) [] := ⟨OwnRow.nil, by simp⟩
theorem OwnO.keptB (h : OwnO w base v L) (hb : Below w.heap.size w w') : OwnO w' base v L := ⟨h.1.keptB hb, fun x hx => (h.2 x hx).below hb⟩
theorem OwnO.alloc (h : OwnO w base v L) (o : Obj) : OwnO (w.alloc o) base v L := h.keptB ((Below.refl _ _).alloc (Nat.le_refl _) o)
theorem OwnO.weak {b2 : Nat} (h : OwnO w base v L) (hb : b2 ≤ base) : OwnO w b2 v L := ⟨h.1.weak hb, h.2⟩
theorem OwnO.grown {row : Option Nat} (h : OwnO w base v L) (hg : w.grownBy w' row) (hne : v.ownBlock = none ∨ v.ownBlock ≠ row) (hB : ∀ g, row = some g → ∃ t cs, Blk w g t cs ∧ 5 ≠ t) : OwnO w' base v L := ⟨h.1.grown hg hne, fun x hx => (h.2 x hx).row hg hB⟩
theorem own_blk (h : OwnRow opv 4 w base 40 v L) : ∀ g, v.ownBlock = some g → ∃ cs, Blk w g 40 cs := fun g hg => by
  rcases h.2.2 with ⟨rfl, _⟩ | ⟨g2, cap, cur, rfl, hb, hh, _⟩
  · cases hg
  · simp only [Value.ownBlock, Option.some.injEq] at hg
    subst hg
    exact ⟨cur, hh⟩
/-- one more is put behind -/
theorem OwnO.app {v' : Value} {r : List Ow} (h : OwnO w base v L) (h1 : OwnRow opv 4 w' base 40 v' (L ++ r)) (hg : w.grownBy w' v.ownBlock) (hr : ∀ x ∈ r, WfT w x) : OwnO w' base v' (L ++ r) := by
  have hB : ∀ g, v.ownBlock = some g → ∃ t cs, Blk w g t cs ∧ 5 ≠ t := fun g hg => by
    obtain ⟨cs, hcs⟩ := own_blk h.1 g hg
    exact ⟨_, cs, hcs, op_ne⟩
  refine ⟨h1, fun x hx => ?_⟩
  rcases List.mem_append.1 hx with hx | hx
  · exact (h.2 x hx).row hg hB
  · exact (hr x hx).row hg hB
theorem OwnO.opens (h : OwnO w base v L) : ∃ A c, v = .slice A L.length c ∧ L.length ≤ c ∧ c ≤ 9223372036854775807 ∧ ReadO w w.heap.size A L ∧ (∀ ad, A = some ad → base ≤ ad.block ∧ ad.block < w.heap.size) := by
  obtain ⟨A, c, e, h1, h2, h3, h4⟩ := h.1.opens
  exact ⟨A, c, e, h1, h2, ⟨h3, fun x hx => (h.2 x hx).wf⟩, h4⟩
end
/-- the k-th operation -/
def oat (L : List Ow) (k : Nat) : Ow := L.getD k (⟨false, 0, 0, []⟩, none, 0)
theorem oat_get {L : List Ow} {k : Nat} (h : k < L.length) : L[k]? = some (oat L k) := by simp [oat, List.getD, h]
theorem oat_mem {L : List Ow} {k : Nat} (h : k < L.length) : oat L k ∈ L := List.mem_of_getElem? (oat_get h)
theorem opv_mk (c : Bool) (p n : Int) (d : List UInt8) (A : Option Addr) (k : Nat) : opv (⟨c, p, n, d⟩, A, k) = [.bool c, .int .i64 p, .int .i64 n, .slice A d.length k] := rfl
theorem isOp : ∃ i, IsRec Tryd.prog 40 i 4 48 := isRec_of (by kernel_rfl)
end Os_
end Go.Proofs.YtiofkhjpknfkgaaDoor
/- Slices of bytes, as equations for the walk. -/
namespace Go.Proofs.YtiofkhjpknfkgaaDoor
namespace Ba
open Go.RowKit
set_option linter.unusedVariables false
theorem elem_of {P : Program} {t e : TypeId} (hu : P.underlying t = some (.slice e)) : P.elem t = e := by simp [Program.elem, hu]
/-- x[l:h] -/
theorem sl_lh {P : Program} (t e : TypeId) (i : TypeInfo) (hu : P.underlying t = some (.slice e)) (hi : IsByte P e i) (b o n cap : Nat) (l h : Int) (p k : Nat) (hl : l = p) (hh : h = p + k) (h2 : p + k ≤ cap) (h3 : p < cap) (w : World) :
    (Instr.slice t (.slice (some ⟨b, o, none⟩) n cap) (some (.int .i64 l)) (some (.int .i64 h)) none).run P w = .ok (.slice (some ⟨b, o + p, none⟩) k (cap - p)) w := by
  subst hl hh
  rw [run_slice_lh w t (some ⟨b, o, none⟩) n cap (by rw [elem_of hu]; exact hu) .i64 .i64 (p : Int) ((p : Int) + (k : Int)) (by omega) (by omega) (by omega), elem_of hu]
  have hs : (sizeOf e).run P w = .ok 1 w := by simp [sizeOf, typeInfo, hi.1, hi.2.2.1]
  rw [hs]
  simp only [Result.andThen_ok, sliced]
  have e1 : ((p : Int) + (k : Int)).toNat - (p : Int).toNat = k := by omega
  have e2 : (p : Int).toNat = p := by omega
  rw [e1, e2, if_neg (by omega), Nat.mul_one, Option.map_some, add_lit_]
/-- x[l:], something left of the capacity -/
theorem sl_l {P : Program} (t e : TypeId) (i : TypeInfo) (hu : P.underlying t = some (.slice e)) (hi : IsByte P e i) (A : Option Addr) (n cap : Nat) (l : Int) (p : Nat) (hl : l = p) (h2 : p ≤ n) (w : World) :
    (Instr.slice t (.slice A n cap) (some (.int .i64 l)) none none).run P w = .ok (.slice (if cap = p then A else A.map (·.add p)) (n - p) (cap - p)) w := by
  subst hl
  rw [run_slice_l w t A n cap (by rw [elem_of hu]; exact hu) .i64 (p : Int) (by omega) (by omega), elem_of hu]
  have hs : (sizeOf e).run P w = .ok 1 w := by simp [sizeOf, typeInfo, hi.1, hi.2.2.1]
  rw [hs]
  simp only [Result.andThen_ok, sliced]
  have e2 : (p : Int).toNat = p := by omega
  rw [e2, Nat.mul_one]
/-- x[:h] -/
theorem sl_h {P : Program} (t e : TypeId) (i : TypeInfo) (hu : P.underlying t = some (.slice e)) (hi : IsByte P e i) (A : Option Addr) (n cap : Nat) (h : Int) (k : Nat) (hh : h = k) (h2 : k ≤ cap) (w : World) :
    (Instr.slice t (.slice A n cap) none (some (.int .i64 h)) none).run P w = .ok (.slice A k cap) w := by
  subst hh
  rw [run_slice_h w t A n cap (by rw [elem_of hu]; exact hu) .i64 (k : Int) (by omega) (by omega), elem_of hu]
  have hs : (sizeOf e).run P w = .ok 1 w := by simp [sizeOf, typeInfo, hi.1, hi.2.2.1]
  rw [hs]
  simp only [Result.andThen_ok, sliced]
  have e2 : (k : Int).toNat = k := by omega
  rw [e2, Nat.sub_zero, Nat.sub_zero]
  split
  · rfl
  · cases A <;> simp [Addr.add]
end Ba
namespace CanT
open CanM (St)
open Go.RowKit Ba
variable {P : Program} {ops : Array Oper} {Q : Exit → Act → World → Prop} {F : World → Prop} {k : Nat} {i : Nat} {o : Oper} {a : Act} {w : World} {rest : Ord}
/-- one cell is read, whatever F says of the world -/
theorem cellG (hi : ops[i]? = some o) (hg : Region.wanted o (yielded ops a.tmps) = true) (u v : Value) (p : Addr) (hF : ∀ w', F w' → w'.cell? p = some u)
    (hl : ∀ w', w'.cell? p = some u → (execOp a.eval o).run P w' = .ok (.value v) w')
    (h : ∀ K : Act → Prop, (∀ a, wpCan P ops Q k rest F a w → K a) → K (a.put o.dst v)) : wpCan P ops Q k (.op i 1 rest) F a w :=
  held hi hg ⟨v, fun w' hf => hl w' (hF w' hf), h⟩
end CanT
end Go.Proofs.YtiofkhjpknfkgaaDoor
/- A search of the program: its state; bytes are told. -/
namespace Go.Proofs.YtiofkhjpknfkgaaDoor
namespace Ms
open Go.RowKit Ba Tm Os_
set_option linter.unusedVariables false
theorem sl_lhA {P : Program} (t e : TypeId) (i : TypeInfo) (hu : P.underlying t = some (.slice e)) (hi : IsByte P e i) (A : Option Addr) (n cap : Nat) (l h : Int) (p q : Nat) (hl : l = p) (hh : h = q) (h1 : p ≤ q) (h2 : q ≤ cap) (w : World) :
    (Instr.slice t (.slice A n cap) (some (.int .i64 l)) (some (.int .i64 h)) none).run P w = .ok (.slice (if cap = p then A else A.map (·.add p)) (q - p) (cap - p)) w := by
  subst hl hh
  rw [run_slice_lh w t A n cap (by rw [elem_of hu]; exact hu) .i64 .i64 (p : Int) (q : Int) (by omega) (by omega) (by omega), elem_of hu]
  have hs : (sizeOf e).run P w = .ok 1 w := by simp [sizeOf, typeInfo, hi.1, hi.2.2.1]
  rw [hs]
  simp only [Result.andThen_ok, sliced]
  have e1 : (q : Int).toNat - (p : Int).toNat = q - p := by omega
  have e2 : (p : Int).toNat = p := by omega
  rw [e1, e2, Nat.mul_one]
/-- operations that are written out -/
theorem own1 (w : World) (base : Nat) (hb : base ≤ w.heap.size) (x : Ow) : OwnRow opv 4 (w.alloc (.cells (opv x).toArray 40)) base 40 (.slice (some ⟨w.heap.size, 0, none⟩) 1 1) [x] := by
  refine ⟨RWf.one (opv_len x) (opv_one x), by rw [rows_one]; rfl, .inr ⟨w.heap.size, 1, (opv x).toArray, rfl, hb, heap_alloc_new w _, Nat.le_refl _, by unfold maxLen; omega, by rfl, ?_⟩⟩
  rw [rows_one]
  rfl
set_option maxRecDepth 100000 in
set_option maxHeartbeats 2000000 in
theorem whole_calls (b : List UInt8) (A : Option Addr) (n c : Nat) (hn : n = b.length) (hc : b.length ≤ c) (hl : b.length ≤ 1000000) (w : World) (h : ReadB w w.heap.size A b) :
    Calls Tryd.prog 20 #[.slice A n c] w fun e w' => ∃ v M, e = .returned v ∧ OwnO w' w.heap.size v M ∧ ops M = whole b ∧ Below w.heap.size w w' := by
  obtain ⟨iO, hiO⟩ := isOp
  have Hi := Lib.hid hiO
  by_cases h0 : n = 0
  · have He := Lib.hid (whole_nil b (by omega))
    subst h0
    clear hn hiO
    go_enter Tryd.func20, Tryd.ntmps20
    go_wp2_with fail
    go_ret
    exact ⟨_, [], rfl, OwnO.nil, He.out.symm, Below.refl _ _⟩
  · have hcl := Cl.cloneN hn hc (by omega) h
    have Hcl := Lib.hid hcl
    have he : whole b = [lit b] := if_neg (by omega)
    have He := Lib.hid he
    have hz : ¬ (n : Int) = 0 := by omega
    have Hn := Lib.hid hn
    clear hcl he hn h hiO
    go_enter Tryd.func20, Tryd.ntmps20
    go_wp2_with fail
    refine Calls.mono Hcl.out ?_
    rintro e1 w1 ⟨v1, rfl, ho1, hb1⟩
    obtain ⟨A1, c1, rfl, p1, m1, -, -⟩ := ho1.opens
    have Hrt := Lib.hid (RT.of_own ho1)
    have Hb1 := Lib.hid hb1
    have Hp1 := Lib.hid p1
    have Hm1 := Lib.hid m1
    clear ho1 hb1 p1 m1
    go_wp2_with (refine wpList_bslice _ rfl 31 40 1 _ rfl Tryd.underlying31 iO 4 48 Hi.out (by omega) (by omega) [(0, .agg #[.bool false, .int .i64 0, .int .i64 0, .slice A1 b.length c1])] rfl [.bool false, .int .i64 0, .int .i64 0, .slice A1 b.length c1] (fun Z hZ => fill_one 4 (.agg #[.bool false, .int .i64 0, .int .i64 0, .slice A1 b.length c1]) rfl Z hZ) ?_)
    go_ret
    refine ⟨_, [(lit b, A1, c1)], rfl, ⟨own1 w1 w.heap.size Hb1.out.size (lit b, A1, c1), fun x hx => ?_⟩, by rw [He.out]; rfl, Hb1.out.alloc Hb1.out.size _⟩
    rw [List.mem_singleton] at hx
    subst hx
    exact WfT.below (w := w1) ⟨by simp [lit], by simp [lit], Hp1.out, Hm1.out, Hrt.out⟩ ((Below.refl _ _).alloc (Nat.le_refl _) _)
/-- a search's state in block g: the new file, the place from which on nothing is told yet, what is -/
def IsF (w : World) (base g : Nat) (A : Option Addr) (n c frm : Nat) (L : List Ow) : Prop :=
  base ≤ g ∧ ∃ u, Blk w g 64 #[.slice A n c, .int .i64 (frm : Int), u] ∧ OwnO w base u L
theorem fdr_ne : (5 : TypeId) ≠ 64 := by decide
theorem fop_ne : (40 : TypeId) ≠ 64 := by decide
section
variable {w w' : World} {base g : Nat} {A : Option Addr} {n c frm : Nat} {L : List Ow}
theorem IsF.lt (h : IsF w base g A n c frm L) : g < w.heap.size := by obtain ⟨_, u, h, _⟩ := h; exact h.lt
theorem IsF.below (h : IsF w base g A n c frm L) (hb : Below w.heap.size w w') : IsF w' base g A n c frm L := by
  obtain ⟨h0, u, h1, h2⟩ := h
  exact ⟨h0, u, h1.below hb h1.lt, h2.keptB hb⟩
end
theorem ownO_ne {w : World} {base g : Nat} {u : Value} {L : List Ow} {t : TypeId} {cs : Array Value} (ho : OwnO w base u L) (hB : Blk w g t cs) (hne : (40 : TypeId) ≠ t) : u.ownBlock ≠ some g := fun e => by
  obtain ⟨cs', h'⟩ := own_blk ho.1 g e
  exact Blk.ne_ h' hB hne rfl
theorem ownO_far {w : World} {base g i : Nat} {u x : Value} {L : List Ow} {t : TypeId} {cs : Array Value} (ho : OwnO w base u L) (hB : Blk w g t cs) (hne : (40 : TypeId) ≠ t) (hne2 : (5 : TypeId) ≠ t) : OwnO (w.setCell ⟨g, i, none⟩ x) base u L :=
  ho.grown (only_set w g i x) (.inr (ownO_ne ho hB hne)) (fun g' hg' => by injection hg' with hg'; subst hg'; exact ⟨_, _, hB, hne2⟩)
set_option maxRecDepth 100000 in
set_option maxHeartbeats 4000000 in
theorem literal_calls {w : World} {base g : Nat} {A : Option Addr} {n c frm : Nat} {L : List Ow} (h : IsF w base g A n c frm L) (b : List UInt8) (hn : n = b.length) (hc : n ≤ c) (hcm : c ≤ 9223372036854775807) (hr : ReadB w base A b) (hbl : n ≤ 1000000) (to : Nat) (h1 : frm ≤ to) (h2 : to ≤ n) (hL : L.length ≤ 1000000) :
    Calls Tryd.prog 37 #[.pointer (some ⟨g, 0, none⟩), .int .i64 (to : Int)] w fun e w' => e = .returned (.tuple #[]) ∧ ∃ M, IsF w' base g A n c to (L ++ M) ∧ ops M = whole (cut b frm to) ∧ Below base w w' := by
  obtain ⟨hbg, u, hB, ho⟩ := h
  obtain ⟨iO, hiO⟩ := isOp
  obtain ⟨i0, hi0⟩ := isByte_of Cl.info5
  have Hi := Lib.hid hiO
  have Hi0 := Lib.hid hi0
  have hbw : base ≤ w.heap.size := Nat.le_trans hbg (Nat.le_of_lt hB.lt)
  obtain ⟨A2, hA2⟩ : ∃ A2, A2 = if c = frm then A else A.map (·.add frm) := ⟨_, rfl⟩
  obtain ⟨c2, hc2⟩ : ∃ c2, c2 = c - frm := ⟨_, rfl⟩
  obtain ⟨m2, hm2⟩ : ∃ m2, m2 = to - frm := ⟨_, rfl⟩
  have hsl := fun w' => sl_lhA (P := Tryd.prog) 22 5 i0 Tryd.underlying22 Hi0.out A n c (frm : Int) (to : Int) frm to rfl rfl h1 (by omega) w'
  rw [← hA2, ← hc2, ← hm2] at hsl
  have hml : m2 = (cut b frm to).length := by rw [cut_len b frm to h1 (by omega)]; exact hm2
  have hrA : ReadB w base A2 (cut b frm to) := by
    rw [hA2]
    exact (hr.cut (by omega)).take _
  have hwh := whole_calls (cut b frm to) A2 m2 c2 hml (by omega) (by omega)
  have Hml := Lib.hid hml
  have HrA := Lib.hid hrA
  have Hwh := Lib.hid hwh
  have HB := Lib.hid hB
  have HO := Lib.hid ho
  have Hne := Lib.hid (ownO_ne ho hB fop_ne)
  have Hbw := Lib.hid hbw
  have Hbg := Lib.hid hbg
  have HL := Lib.hid hL
  obtain ⟨W1, hW1⟩ : ∃ W1, W1 = whole (cut b frm to) := ⟨_, rfl⟩
  have HW1 := Lib.hid hW1
  rw [← hW1] at Hwh ⊢
  have Hn := Lib.hid hn
  clear hn hA2 hc2 hm2 hml hrA hwh hB ho hbw hr hi0 hiO hbg hL hW1
  go_enter Tryd.func37, Tryd.ntmps37
  go_wp2_with fail
  have HBd : Hid (Blk w.drew g 64 #[.slice A n c, .int .i64 (frm : Int), u]) := HB
  have HOd : Hid (OwnO w.drew base u L) := HO
  have HrAd : Hid (ReadB w.drew base A2 (cut b frm to)) := HrA
  have Hbwd : Hid (base ≤ w.drew.heap.size) := Hbw
  have Hd : Hid (Below base w w.drew) := Lib.hid (Below.refl _ _).drew
  refine CanT.region (fun w' => Blk w' g 64 #[.slice A n c, .int .i64 (frm : Int), u]) 19 (.op 0 2 (.op 1 2 (.op 2 2 (.op 3 2 (.op 4 1 (.op 5 2 (.op 6 2 (.op 7 2 (.op 8 1 (.op 9 2 (.op 10 2 (.op 11 2 (.op 12 1 (.op 13 2 (.op 14 2 (.op 15 0 (.op 16 0 (.op 17 2 (.op 18 2 (.op 19 0 (.nil))))))))))))))))))))) (by kernel_rfl) (by kernel_rfl) HBd.out ?_
  generalize w.drew = W at *
  repeat (first | (refine CanT.skip rfl ?_ (fun K hK => ?_); (focus (go_simp; done)); go_simp; refine hK _ ?_; clear hK K) | (refine CanT.pur rfl ?_ ?_; (focus (go_simp; done)); refine ⟨?_, ?_, ?_⟩; rotate_left; (focus (intro w'; go_simp; rfl)); (focus (intro K hK; go_simp; refine hK _ ?_; clear hK K))) | (refine CanT.cellG rfl ?_ (.slice A n c) (.slice A n c) ⟨g, 0, none⟩ (fun w' h => by rw [Blk.cell h]; rfl) ?_ (fun K hK => ?_); (focus (go_simp; done)); (focus (intro w' hc'; go_simp; (try rfl))); go_simp; refine hK _ ?_; clear hK K) | (refine CanT.cellG rfl ?_ (.int .i64 (frm : Int)) (.int .i64 (frm : Int)) ⟨g, 1, none⟩ (fun w' h => by rw [Blk.cell h]; rfl) ?_ (fun K hK => ?_); (focus (go_simp; done)); (focus (intro w' hc'; go_simp; (try rfl))); go_simp; refine hK _ ?_; clear hK K) | (refine CanT.cellG rfl ?_ (u) (u) ⟨g, 2, none⟩ (fun w' h => by rw [Blk.cell h]; rfl) ?_ (fun K hK => ?_); (focus (go_simp; done)); (focus (intro w' hc'; go_simp; (try rfl))); go_simp; refine hK _ ?_; clear hK K))
  refine CanT.imp rfl (fun K hK => ?_)
  go_simp
  refine (Hwh.out W (HrAd.out.more Hbwd.out)).mono ?_
  rintro e w1 ⟨v1, M, rfl, ho1, hM1, hb1⟩
  obtain ⟨A3, c3, rfl, p3, m3, q3, -⟩ := ho1.opens
  have hml1 : M.length ≤ 1 := by rw [← ops_len, hM1, HW1.out]; exact whole_len _
  have HO1 := Lib.hid ho1
  have HM1 := Lib.hid hM1
  have HB1 := Lib.hid (HBd.out.below hb1 HBd.out.lt)
  have HOf := Lib.hid (HOd.out.keptB hb1)
  have HD1 := Lib.hid (Hd.out.trans (hb1.mono Hbwd.out))
  have HR3 := Lib.hid q3
  have Hs1 : Hid (base ≤ w1.heap.size) := Lib.hid (Nat.le_trans Hbwd.out hb1.size)
  have Hml1 := Lib.hid hml1
  clear ho1 hM1 hb1 p3 m3 q3 hml1
  (try go_simp)
  refine hK.out _ _ HB1.out ?_
  clear hK K
  refine CanT.imp rfl (fun K hK => ?_)
  refine step_appR _ ?_ (.tmp 8) (.tmp 19) 31 rfl base 40 iO 48 Tryd.underlying31 Hi.out (by omega) u L rfl HOf.out.1 w1.heap.size A3 M.length c3 M rfl rfl HR3.out.1 (by have := HL.out; have := Hml1.out; omega) (by have := HL.out; have := Hml1.out; omega) Hs1.out ?_
  focus (go_simp; done)
  intro v4 w4 ho4 hg4 _ hb4
  have HB4 := Lib.hid (HB1.out.grown hg4 (fun e => Hne.out e.symm))
  have HO4 := Lib.hid (HOf.out.app ho4 hg4 (fun x hx => HO1.out.2 x hx))
  have HD4 := Lib.hid (HD1.out.trans hb4)
  clear ho4 hg4 hb4
  obtain ⟨A4, n4, c4, hv4⟩ : ∃ A4 n4 c4, v4 = .slice A4 n4 c4 := by obtain ⟨A4, c4, e4, -⟩ := HO4.out.opens; exact ⟨A4, _, c4, e4⟩
  subst hv4
  (try go_simp)
  refine hK.out _ _ HB4.out ?_
  clear hK K
  repeat (first | (refine CanT.skip rfl ?_ (fun K hK => ?_); (focus (go_simp; done)); go_simp; refine hK _ ?_; clear hK K) | (refine CanT.pur rfl ?_ ?_; (focus (go_simp; done)); refine ⟨?_, ?_, ?_⟩; rotate_left; (focus (intro w'; go_simp; rfl)); (focus (intro K hK; go_simp; refine hK _ ?_; clear hK K))))
  have hc2 : w4.cell? ⟨g, 2, none⟩ = some u := by rw [Blk.cell HB4.out]; rfl
  have hfz := Blk.frozen HB4.out
  refine CanT.last rfl (fun K hK => ?_)
  go_simp
  refine hK.out _ _ ?_
  clear hK K
  refine CanT.done ?_
  have HB5 : Hid (Blk (w4.setCell ⟨g, 2, none⟩ (.slice A4 n4 c4)) g 64 #[.slice A n c, .int .i64 (frm : Int), (.slice A4 n4 c4)]) := Lib.hid (Blk.set_ HB4.out 2 (.slice A4 n4 c4))
  have HO5 : Hid (OwnO (w4.setCell ⟨g, 2, none⟩ (.slice A4 n4 c4)) base (.slice A4 n4 c4) (L ++ M)) := Lib.hid (ownO_far HO4.out HB4.out fop_ne fdr_ne)
  have HD5 : Hid (Below base w (w4.setCell ⟨g, 2, none⟩ (.slice A4 n4 c4))) := Lib.hid (HD4.out.setCell (p := ⟨g, 2, none⟩) Hbg.out (.slice A4 n4 c4))
  have hc1 : w4.cell? ⟨g, 1, none⟩ = some (.int .i64 (frm : Int)) := by rw [Blk.cell HB4.out]; rfl
  have hc1' : (w4.setCell ⟨g, 2, none⟩ (.slice A4 n4 c4)).cell? ⟨g, 1, none⟩ = some (.int .i64 (frm : Int)) := by rw [Blk.cell HB5.out]; rfl
  have hfz' := Blk.frozen HB5.out
  go_wp2_with fail
  refine bodyPost_end (results_none rfl _ _ _) rfl ?_
  exact ⟨rfl, M, ⟨Hbg.out, (.slice A4 n4 c4), Blk.set_ HB5.out 1 (.int .i64 (to : Int)), ownO_far HO5.out HB5.out fop_ne fdr_ne⟩, HM1.out, HD5.out.setCell (p := ⟨g, 1, none⟩) Hbg.out _⟩
end Ms
end Go.Proofs.YtiofkhjpknfkgaaDoor

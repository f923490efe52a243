/- Sums as bytes and back: plain laws. -/
import Derived.Test.YtcbkhbnemhkheaaDoorP01
import Derived.Test.YtcbkhbnemhkheaaDoorP02
import Derived.Test.YtcbkhbnemhkheaaDoorP03
import Derived.Test.YtcbkhbnemhkheaaDoorP04
import Derived.Test.YtcbkhbnemhkheaaDoorP05
import Derived.Test.YtcbkhbnemhkheaaDoorP06
import Derived.Test.YtcbkhbnemhkheaaDoorP07
import Derived.Laws.Strings
import Derived.Lib.BufferWrite
import Derived.Test.YtcbkhbnemhkheaaDoorProg
import Derived.WalkKit
import Derived.KernelRfl
import Derived.RowKit3
import Derived.Deep.LoopGhost
import Derived.Deep.QuietTactic
import Derived.BigQuiet
import Derived.Lib.Hide
namespace Go.Proofs.YtcbkhbnemhkheaaDoor
namespace Bk
open Ro Sm
set_option linter.unusedVariables false
theorem sgB_ofB (y : List UInt8) (h : y.length = 36) : sgB (ofB y) = y := by
  unfold sgB ofB
  have h4 : (y.take 4).length = 4 := by rw [List.length_take]; omega
  have e := be_val (y.take 4) 0
  rw [h4] at e
  rw [e, List.take_append_drop]
theorem ofB_sgB (s : Sg) (h1 : s.1 < 4294967296) : ofB (sgB s) = s := by
  unfold sgB ofB
  rw [List.take_left' (Vm.be_length 4 s.1), List.drop_left' (Vm.be_length 4 s.1), val_be0 s.1 4 (by omega)]
theorem sgsB_sigsK (x : List UInt8) (k : Nat) (h : 36 * k ≤ x.length) : sgsB (sigsK x k) = x.take (36 * k) := by
  induction k with
  | zero => rfl
  | succ k ih =>
    have h2 := ih (by omega)
    rw [sigsK_succ]
    unfold sgsB at h2 ⊢
    rw [List.flatMap_append, h2]
    have e : List.flatMap sgB [ofB ((x.drop (k * 36)).take 36)] = (x.drop (k * 36)).take 36 := by
      simp only [List.flatMap_cons, List.flatMap_nil, List.append_nil]
      exact sgB_ofB _ (by rw [List.length_take, List.length_drop]; omega)
    rw [e, Nat.mul_comm k 36, show 36 * (k + 1) = 36 * k + 36 by omega, List.take_add]
theorem sgsB_all (x : List UInt8) (k : Nat) (h : x.length = 36 * k) : sgsB (sigsK x k) = x := by
  rw [sgsB_sigsK x k (by omega), List.take_of_length_le (by omega)]
theorem sgB_len (s : Sg) (h : s.2.length = 32) : (sgB s).length = 36 := by
  unfold sgB
  rw [List.length_append, Vm.be_length, h]
theorem sgsB_len' (l : List Sg) (h : ∀ s ∈ l, s.2.length = 32) : (sgsB l).length = 36 * l.length := by
  induction l with
  | nil => rfl
  | cons s l ih =>
    have h1 := h s (by simp)
    have h2 := ih (fun x hx => h x (by simp [hx]))
    unfold sgsB at h2 ⊢
    rw [List.flatMap_cons, List.length_append, h2, sgB_len s h1, List.length_cons]
    omega
theorem sigsK_sgsB (l : List Sg) (h : ∀ s ∈ l, s.1 < 4294967296 ∧ s.2.length = 32) (y : List UInt8) : sigsK (sgsB l ++ y) l.length = l := by
  apply List.ext_getElem?
  intro i
  unfold sigsK
  rw [List.getElem?_map]
  by_cases hi : i < l.length
  · rw [List.getElem?_range hi, List.getElem?_eq_getElem hi]
    simp only [Option.map_some, Option.some.injEq]
    have key : ((sgsB l ++ y).drop (i * 36)).take 36 = sgB l[i] := by
      have e : l = l.take i ++ l[i] :: l.drop (i + 1) := by
        conv => lhs; rw [← List.take_append_drop i l, List.drop_eq_getElem_cons hi]
      have e2 : sgsB l = sgsB (l.take i) ++ (sgB l[i] ++ sgsB (l.drop (i + 1))) := by
        conv => lhs; rw [e]
        unfold sgsB
        rw [List.flatMap_append, List.flatMap_cons]
      have h1 : (sgsB (l.take i)).length = i * 36 := by
        rw [sgsB_len' _ (fun s hs => (h s (List.mem_of_mem_take hs)).2), List.length_take]
        omega
      rw [e2, List.append_assoc, List.drop_left' h1, List.append_assoc, List.take_left' (sgB_len _ (h _ (List.getElem_mem hi)).2)]
    rw [key, ofB_sgB _ (h _ (List.getElem_mem hi)).1]
  · rw [List.getElem?_eq_none (by simp; omega), List.getElem?_eq_none (by omega)]
    rfl
/-- the reader of the document, so far as it is read -/
def done36 (r : Fm.Rd) (k : Nat) : Fm.Rd := ⟨r.l.drop (36 * k), r.e⟩
def rgetK (raw : List UInt8) (s n : Int) (r : Fm.Rd) (k : Nat) : Int × Int × List Sg × Int :=
  if (done36 r k).done ≠ 0 ∨ (put s n (sigsK r.l k)).2 ≠ 0 ∨ (put s n (sigsK r.l k)).1 ≠ raw then none4 else (s, n, sigsK r.l k, 0)
theorem rgetK_put (raw : List UInt8) (s n : Int) (r : Fm.Rd) (k : Nat) (h : (rgetK raw s n r k).2.2.2 = 0) : put (rgetK raw s n r k).1 (rgetK raw s n r k).2.1 (rgetK raw s n r k).2.2.1 = (raw, 0) := by
  unfold rgetK at h ⊢
  split at h
  · simp [none4] at h
  · rename_i h1
    rw [if_neg h1]
    have h2 := not_or.1 h1
    have h3 := not_or.1 h2.2
    exact Prod.ext (Classical.not_not.1 h3.2) (Classical.not_not.1 h3.1)
theorem rgetK_none (raw : List UInt8) (s n : Int) (r : Fm.Rd) (k : Nat) (h : (rgetK raw s n r k).2.2.2 ≠ 0) : rgetK raw s n r k = none4 := by
  unfold rgetK at h ⊢
  split
  · rfl
  · rename_i h1
    rw [if_neg h1] at h
    exact absurd rfl h
def rget (raw : List UInt8) : Int × Int × List Sg × Int :=
  let a := (Fm.Rd.mk raw 0).num 4096
  let b := a.1.num 65536
  rgetK raw a.2 b.2 b.1 (if b.1.e ≠ 0 then 0 else b.1.l.length / 36)
theorem num_bad (r : Fm.Rd) (most : Int) (h : r.e ≠ 0) : r.num most = (r, 0) := by unfold Fm.Rd.num; rw [if_pos h]
theorem check_ok (size n : Int) (m : Nat) : check size n m = 0 ↔ (1 ≤ size ∧ size ≤ 4096) ∧ (0 ≤ n ∧ n ≤ 65536) ∧ (m : Int) = n / size ∧ m ≤ 4096 := by
  unfold check
  constructor
  · intro h
    split at h
    · omega
    · split at h
      · omega
      · split at h
        · omega
        · rename_i h1 h2 h3
          refine ⟨by omega, by omega, by omega, by omega⟩
  · rintro ⟨h1, h2, h3, h4⟩
    rw [if_neg (by omega), if_neg (by omega), if_neg (by omega)]
theorem get_two (raw : List UInt8) (h : (((Fm.Rd.mk raw 0).num 4096).1.num 65536).1.e = 0) :
    ∃ (s n : Nat) (x : List UInt8), (Fm.Rd.mk raw 0).num 4096 = (Fm.Rd.mk (Fm.num (n : Int) ++ x) 0, s) ∧ (Fm.Rd.mk (Fm.num (n : Int) ++ x) 0).num 65536 = (Fm.Rd.mk x 0, n) ∧ raw = Fm.num (s : Int) ++ (Fm.num (n : Int) ++ x) ∧ (s : Int) ≤ 4096 ∧ (n : Int) ≤ 65536 := by
  have h1 : ((Fm.Rd.mk raw 0).num 4096).1.e = 0 := by
    apply Classical.byContradiction
    intro hne
    rw [num_bad _ _ hne] at h
    exact hne h
  obtain ⟨a1, a2, a3⟩ := rnum_take raw 4096 h1
  rcases he : (Fm.Rd.mk raw 0).num 4096 with ⟨⟨l1, e1⟩, s⟩
  rw [he] at h h1 a1 a2 a3
  simp only at h h1 a1 a2 a3
  subst h1
  obtain ⟨b1, b2, b3⟩ := rnum_take l1 65536 h
  rcases he2 : (Fm.Rd.mk l1 0).num 65536 with ⟨⟨l2, e2⟩, n⟩
  rw [he2] at h b1 b2 b3
  simp only at h b1 b2 b3
  subst h
  refine ⟨s, n, l2, by rw [← b1], ?_, by rw [← b1]; exact a1, a2, b2⟩
  rw [← b1]
  exact he2
theorem get_rget (raw : List UInt8) : get raw = rget raw := by
  by_cases h : (((Fm.Rd.mk raw 0).num 4096).1.num 65536).1.e = 0
  · obtain ⟨s, n, x, h1, h2, h3, h4, h5⟩ := get_two raw h
    have hd : (done36 ⟨x, 0⟩ (x.length / 36)).done = if x.length % 36 = 0 then 0 else 4 := by
      unfold done36 Fm.Rd.done
      rw [if_neg (by simp)]
      simp only [List.length_drop]
      by_cases hm : x.length % 36 = 0
      · rw [if_pos hm, if_neg (by omega)]
      · rw [if_neg hm, if_pos (by omega)]
    have hR : rget raw = rgetK raw (s : Int) (n : Int) ⟨x, 0⟩ (x.length / 36) := by
      unfold rget
      simp only [h1, h2]
      rw [if_neg (show ¬ ((0 : Int) ≠ 0) by omega)]
    have hL : get raw = if (0 : Int) ≠ 0 ∨ s < 1 ∨ 4096 < s ∨ x.length ≠ n / s * 36 then none4 else if check (s : Int) (n : Int) (n / s) ≠ 0 then none4 else ((s : Int), (n : Int), sigsK x (n / s), 0) := by
      unfold get
      simp only [h1, h2]
    rw [hR]
    obtain ⟨k, hk⟩ : ∃ k, k = x.length / 36 := ⟨_, rfl⟩
    rw [← hk] at hd ⊢
    have hsl := sigsK_len x k
    by_cases hm : x.length % 36 = 0
    · rw [if_pos hm] at hd
      have hx : x.length = 36 * k := by omega
      by_cases hc : check (s : Int) (n : Int) k = 0
      · have hp : put (s : Int) (n : Int) (sigsK x k) = (raw, 0) := by
          unfold put
          rw [hsl, if_neg (by simpa using hc), sgsB_all x k hx, h3, List.append_assoc]
        have hR2 : rgetK raw (s : Int) (n : Int) ⟨x, 0⟩ k = ((s : Int), (n : Int), sigsK x k, 0) := by
          unfold rgetK
          simp only [hd, hp]
          rw [if_neg (by simp)]
        obtain ⟨c1, c2, c3, c4⟩ := (check_ok _ _ _).1 hc
        have c5 : k = n / s := by
          have : (n : Int) / (s : Int) = ((n / s : Nat) : Int) := rfl
          rw [this] at c3
          omega
        rw [hR2, hL, ← c5, if_neg (by omega), if_neg (by simpa using hc)]
      · have hp : (put (s : Int) (n : Int) (sigsK x k)).2 ≠ 0 := by
          unfold put
          rw [hsl, if_pos (by simpa using hc)]
          exact hc
        have hR2 : rgetK raw (s : Int) (n : Int) ⟨x, 0⟩ k = none4 := by
          unfold rgetK
          rw [if_pos (.inr (.inl hp))]
        rw [hR2, hL]
        by_cases hq : (0 : Int) ≠ 0 ∨ s < 1 ∨ 4096 < s ∨ x.length ≠ n / s * 36
        · rw [if_pos hq]
        · rw [if_neg hq]
          have : k = n / s := by omega
          rw [← this, if_pos hc]
    · rw [if_neg hm] at hd
      have hR2 : rgetK raw (s : Int) (n : Int) ⟨x, 0⟩ k = none4 := by
        unfold rgetK
        rw [if_pos (.inl (by simp only [hd]; decide))]
      rw [hR2, hL, if_pos (.inr (.inr (.inr (by omega))))]
  · have hL : get raw = none4 := by
      unfold get
      simp only
      rw [if_pos (.inl h)]
    have hR : rget raw = none4 := by
      unfold rget rgetK
      simp only
      rw [if_pos]
      left
      unfold done36 Fm.Rd.done
      rw [if_pos h]
      exact h
    rw [hL, hR]
theorem put_ok (size n : Int) (l : List Sg) (h : (put size n l).2 = 0) : check size n l.length = 0 ∧ (put size n l).1 = Fm.num size ++ (Fm.num n ++ sgsB l) := by
  unfold put at h ⊢
  split at h
  · rename_i h1; exact absurd h h1
  · rename_i h1
    rw [if_neg h1]
    exact ⟨by simpa using h1, by rw [List.append_assoc]⟩
/-- what was put is read as it was, with nothing behind it; a byte more, or less, is none -/
theorem get_put (size n : Int) (l : List Sg) (hl : ∀ s ∈ l, s.1 < 4294967296 ∧ s.2.length = 32) (h : check size n l.length = 0) :
    get (Fm.num size ++ (Fm.num n ++ sgsB l)) = (size, n, l, 0) ∧ get (Fm.num size ++ (Fm.num n ++ sgsB l) ++ [0]) = none4 ∧
      get ((Fm.num size ++ (Fm.num n ++ sgsB l)).take ((Fm.num size ++ (Fm.num n ++ sgsB l)).length - 1)) = none4 := by
  obtain ⟨c1, c2, c3, c4⟩ := (check_ok _ _ _).1 h
  obtain ⟨s, rfl⟩ : ∃ s : Nat, size = (s : Int) := ⟨size.toNat, by omega⟩
  obtain ⟨m, rfl⟩ : ∃ m : Nat, n = (m : Int) := ⟨n.toNat, by omega⟩
  have hk : l.length = m / s := by
    have : (m : Int) / (s : Int) = ((m / s : Nat) : Int) := rfl
    rw [this] at c3
    omega
  have hlen := sgsB_len' l (fun s hs => (hl s hs).2)
  have one : ∀ x, (Fm.Rd.mk (Fm.num (s : Int) ++ x) 0).num 4096 = (⟨x, 0⟩, s) := fun x => Fm.nm_all s x 4096 (by omega) (by omega)
  have two : ∀ x, (Fm.Rd.mk (Fm.num (m : Int) ++ x) 0).num 65536 = (⟨x, 0⟩, m) := fun x => Fm.nm_all m x 65536 (by omega) (by omega)
  have bad : ∀ x : List UInt8, x.length ≠ m / s * 36 → get (Fm.num (s : Int) ++ (Fm.num (m : Int) ++ x)) = none4 := fun x hx => by
    unfold get
    simp only [one, two]
    rw [if_pos (.inr (.inr (.inr hx)))]
  refine ⟨?_, ?_, ?_⟩
  · unfold get
    simp only [one, two]
    rw [if_neg (by rw [hlen, ← hk]; omega), ← hk, if_neg (by simpa using h)]
    have := sigsK_sgsB l hl []
    rw [List.append_nil] at this
    rw [this]
  · rw [List.append_assoc, List.append_assoc]
    refine bad _ ?_
    rw [List.length_append, hlen, ← hk]
    simp
    omega
  · have hn1 := Fm.num_pos m (by omega)
    by_cases h0 : l = []
    · subst h0
      have e : sgsB [] = [] := rfl
      rw [e, List.append_nil, List.length_append, List.take_append, List.take_of_length_le (by omega)]
      have hcut := Fm.shortest_cut m (by omega) ((Fm.num (m : Int)).length - 1) (by omega)
      rw [show (Fm.num (s : Int)).length + (Fm.num (m : Int)).length - 1 - (Fm.num (s : Int)).length = (Fm.num (m : Int)).length - 1 by omega]
      unfold get
      simp only [one]
      have hb : ((Fm.Rd.mk ((Fm.num (m : Int)).take ((Fm.num (m : Int)).length - 1)) 0).num 65536).1.e = 3 := by
        unfold Fm.Rd.num
        rw [hcut]
        simp
      rw [if_pos (.inl (by rw [hb]; decide))]
    · have hp : 0 < l.length := by cases l with | nil => exact absurd rfl h0 | cons _ _ => simp
      have e : (Fm.num (s : Int) ++ (Fm.num (m : Int) ++ sgsB l)).take ((Fm.num (s : Int) ++ (Fm.num (m : Int) ++ sgsB l)).length - 1) = Fm.num (s : Int) ++ (Fm.num (m : Int) ++ (sgsB l).take ((sgsB l).length - 1)) := by
        rw [List.take_append, List.take_append, List.take_of_length_le (l := Fm.num (s : Int)) (by simp only [List.length_append]; omega), List.take_of_length_le (l := Fm.num (m : Int)) (by simp only [List.length_append]; omega)]
        congr 3
        simp only [List.length_append]
        omega
      rw [e]
      refine bad _ ?_
      rw [List.length_take, hlen, ← hk]
      omega
/-- bytes that are read are those that are put -/
theorem put_get (raw : List UInt8) (h : (get raw).2.2.2 = 0) : put (get raw).1 (get raw).2.1 (get raw).2.2.1 = (raw, 0) := by
  rw [get_rget] at h ⊢
  exact rgetK_put _ _ _ _ _ h
theorem get_none (raw : List UInt8) (h : (get raw).2.2.2 ≠ 0) : get raw = none4 := by
  rw [get_rget] at h ⊢
  exact rgetK_none _ _ _ _ _ h
theorem get_e (raw : List UInt8) : (get raw).2.2.2 = 0 ∨ (get raw).2.2.2 = 4 := by
  by_cases h : (get raw).2.2.2 = 0
  · exact .inl h
  · rw [get_none raw h]; exact .inr rfl
end Bk
end Go.Proofs.YtcbkhbnemhkheaaDoor
/- A byte of a text, in a region that draws its order. -/
namespace Go.Proofs.YtcbkhbnemhkheaaDoor
namespace Ba
open Go.RowKit
theorem run_idxS {P : Program} (w : World) (t : TypeId) (h : P.underlying t = some .string) (s : List UInt8) (k : Nat) (hk : k < s.length) : (Instr.index t (.string (S s)) (.int .i64 (k : Int))).run P w = .ok (.int .u8 ((s.getD k 0).toNat : Int)) w := by
  rw [run_index_string w t (S s) .i64 (k : Int) h]
  have h1 : (0 : Int) ≤ (k : Int) ∧ (k : Int) < (S s).size := by rw [S_size]; omega
  rw [dif_pos h1]
  have e : (S s)[(k : Int).toNat]'(by omega) = s.getD k 0 := by
    show s.toArray[(k : Int).toNat]'_ = _
    simp [List.getD, hk]
  rw [e]
end Ba
namespace CanT
open CanM (St)
open Go.RowKit Ba
variable {P : Program} {ops : Array Oper} {Q : Exit → Act → World → Prop} {F : World → Prop} {k : Nat} {i : Nat} {o : Oper} {a : Act} {w : World} {rest : Ord}
theorem idxS (hi : ops[i]? = some o) (hg : Region.wanted o (yielded ops a.tmps) = true) (t : TypeId) (x y : Operand) (ho : o.op = .index t x y) (s : List UInt8) (j : Nat) (hx : a.eval x = .string (S s)) (hy : a.eval y = .int .i64 (j : Int)) (hj : j < s.length) (ht : P.underlying t = some .string)
    (h : ∀ K : Act → Prop, (∀ a, wpCan P ops Q k rest F a w → K a) → K (a.put o.dst (.int .u8 ((s.getD j 0).toNat : Int)))) : wpCan P ops Q k (.op i 2 rest) F a w := by
  refine pur hi hg ⟨_, fun w' => ?_, h⟩
  unfold execOp
  simp only [ho, hx, hy, Sem.run_bind]
  rw [run_idxS w' t ht s j hj]
  rfl
end CanT
end Go.Proofs.YtcbkhbnemhkheaaDoor
/- A sum is read off its bytes. -/
namespace Go.Proofs.YtcbkhbnemhkheaaDoor
namespace Bk
open Go.RowKit Ba Sm Ro
set_option linter.unusedVariables false
theorem u32_or (V c : Nat) (hV : V < 16777216) (hc : c < 256) : bits .or .u32 ((V : Int) * 256) (c : Int) = ((V * 256 + c : Nat) : Int) := by
  have e1 : (BitVec.ofInt 32 ((V * 256 : Nat) : Int)).toNat = V * 256 := by rw [BitVec.ofInt_natCast, BitVec.toNat_ofNat]; exact Nat.mod_eq_of_lt (by omega)
  have e2 : (BitVec.ofInt 32 (c : Int)).toNat = c := by rw [BitVec.ofInt_natCast, BitVec.toNat_ofNat]; exact Nat.mod_eq_of_lt (by omega)
  rw [show ((V : Int) * 256) = ((V * 256 : Nat) : Int) by omega]
  show IntKind.u32.wrap ((BitVec.ofInt 32 ((V * 256 : Nat) : Int) ||| BitVec.ofInt 32 (c : Int)).toNat : Int) = _
  have h3 := Nat.two_pow_add_eq_or_of_lt (i := 8) (b := c) (by omega) V
  rw [BitVec.toNat_or, e1, e2, Nat.mul_comm V 256, show (256 : Nat) = 2 ^ 8 from rfl, ← h3, IntKind.wrap_u32]
  omega
/-- the zero sum's cells, with a weak one -/
def zsig (V : Nat) : List Value := .int .u32 (V : Int) :: List.replicate 32 (.int .u8 0)
theorem zsig_set {w : World} {g : Nat} {t : TypeId} {V : Nat} (h : Blk w g t (zsig V).toArray) (U : Nat) : Blk (w.setCell ⟨g, 0, none⟩ (.int .u32 (U : Int))) g t (zsig U).toArray := by
  have := Blk.set_ h 0 (.int .u32 (U : Int))
  have e : (zsig V).toArray.setIfInBounds 0 (.int .u32 (U : Int)) = (zsig U).toArray := by
    apply Array.ext'
    simp [zsig]
  rw [e] at this
  exact this
theorem ext_S (s : List UInt8) (h : s.length = 36) : (S s).extract 4 36 = S (s.drop 4) := by
  apply ByteArray.ext
  rw [ByteArray.data_extract]
  apply Array.ext'
  simp [S]
  rw [List.take_of_length_le (by rw [List.length_drop, h]; exact Nat.le_refl _)]
theorem copy_sig {w : World} {g V : Nat} (h : Blk w g 49 (zsig V).toArray) (s : List UInt8) (hs : s.length = 36) :
    ∃ w5, (∀ ty, (Builtin.copy_ #[22, 9] ty #[.slice (some ⟨g, 1, none⟩) 32 32, .string ((S s).extract 4 36)]).run Tryd.prog w = .ok (goInt 32) w5) ∧ Blk w5 g 49 (sgv (V, s.drop 4)).toArray ∧ w.grownBy w5 (some g) := by
  have hl : (s.drop 4).length = 32 := by rw [List.length_drop, hs]
  have hsz : (S (s.drop 4)).size = 32 := by rw [S_size, hl]
  have hrun := fun ty => Lib.run_copy_row_string (P := Tryd.prog) w 22 9 ty 5 g 1 32 32 (S (s.drop 4)) (zsig V).toArray 49 Tryd.underlying22 (by kernel_rfl) h (by rw [hsz]; exact Nat.le_refl _) (by rw [hsz]; simp [zsig])
  have e : ((zsig V).toArray.toList.take 1 ++ Lib.byteCells (S (s.drop 4)).data.toList ++ (zsig V).toArray.toList.drop (1 + (S (s.drop 4)).size)).toArray = (sgv (V, s.drop 4)).toArray := by
    rw [hsz]
    apply Array.ext'
    simp [zsig, sgv, Lib.byteCells, bvs, S]
    rfl
  rw [e] at hrun
  rw [hsz] at hrun
  rw [ext_S s hs]
  refine ⟨_, hrun, setRow_heap w g _ _ 49 _ h, ⟨rfl, rfl, rfl, by simp, fun k hk hne => setRow_other w g k _ (fun e => hne (by rw [e]))⟩⟩
set_option maxRecDepth 100000 in
set_option maxHeartbeats 4000000 in
theorem sig_calls (s : List UInt8) (hs : s.length = 36) (w : World) : Calls Tryd.prog 41 #[.string (S s)] w fun e w' => e = .returned (.agg (sgv (ofB s)).toArray) ∧ Below w.heap.size w w' := by
  have Hs := Lib.hid hs
  have hzg : #[Value.int .u32 0, .int .u8 0, .int .u8 0, .int .u8 0, .int .u8 0, .int .u8 0, .int .u8 0, .int .u8 0, .int .u8 0, .int .u8 0, .int .u8 0, .int .u8 0, .int .u8 0, .int .u8 0, .int .u8 0, .int .u8 0, .int .u8 0, .int .u8 0, .int .u8 0, .int .u8 0, .int .u8 0, .int .u8 0, .int .u8 0, .int .u8 0, .int .u8 0, .int .u8 0, .int .u8 0, .int .u8 0, .int .u8 0, .int .u8 0, .int .u8 0, .int .u8 0, .int .u8 0] = (zsig 0).toArray := rfl
  have hA := (Below.refl w.heap.size w).alloc (Nat.le_refl _) (.cells (zsig 0).toArray 49)
  have hR := heap_alloc_new w (.cells (zsig 0).toArray 49)
  have hX := heap_alloc_new (w.alloc (.cells (zsig 0).toArray 49)) (.cells (zsig 0).toArray 49)
  obtain ⟨W, hW⟩ : ∃ W, W = w.alloc (.cells (zsig 0).toArray 49) := ⟨_, rfl⟩
  have hWs : W.heap.size = w.heap.size + 1 := by rw [hW]; simp
  rw [← hW] at hA hR hX
  have hR0 : Blk (W.alloc (.cells (zsig 0).toArray 49)) w.heap.size 49 (zsig 0).toArray := Blk.alloc hR _
  have hX0 : Blk (W.alloc (.cells (zsig 0).toArray 49)) W.heap.size 49 (zsig 0).toArray := hX
  have hB0 : Below w.heap.size w (W.alloc (.cells (zsig 0).toArray 49)) := hA.alloc hA.size _
  have HR0 := Lib.hid hR0
  have HX0 := Lib.hid hX0
  have HB0 := Lib.hid hB0
  have HWs := Lib.hid hWs
  have HW := Lib.hid hW
  clear hs hR hX hA hR0 hX0 hB0 hWs hW
  go_enter Tryd.func41, Tryd.ntmps41
  go_wp2_with fail
  rw [← HWs.out, ← HW.out]
  generalize W.heap.size = gx at *
  generalize hgr : w.heap.size = gr at *
  have Hgr := Lib.hid hgr
  have hgg : gr < gx := by have := HWs.out; omega
  clear hgr HW HWs
  go_loopw [5] (fun v5 wr => ∃ i : Nat, i ≤ 4 ∧ v5 = .int .i64 (i : Int) ∧ Blk wr gx 49 (zsig (Vm.val 0 (s.take i))).toArray ∧ Blk wr gr 49 (zsig 0).toArray ∧ Below gr w wr) (fun v5 _ => (4 - intOf v5).toNat)
  case atStart => exact ⟨0, by omega, rfl, HX0.out, HR0.out, HB0.out⟩
  case round =>
    obtain ⟨i, hi, rfl, hX, hR, hB⟩ := hrel
    have HX := Lib.hid hX
    have HR := Lib.hid hR
    have HB := Lib.hid hB
    clear hX hR hB HX0 HR0 HB0
    by_cases hi4 : i < 4
    · have t1 : decide ((i : Int) < 4) = true := decide_eq_true (by omega)
      have hsn := Vm.val_snoc 0 s i (by rw [Hs.out]; omega)
      have hlt := Vm.val_lt 0 (s.take i)
      rw [show (s.take i).length = i by rw [List.length_take, Hs.out]; omega] at hlt
      have h256 : 256 ^ i ≤ 256 ^ 3 := Nat.pow_le_pow_right (by omega) (by omega)
      obtain ⟨V, hV⟩ : ∃ V, V = Vm.val 0 (s.take i) := ⟨_, rfl⟩
      have hVb : V < 16777216 := by rw [hV]; omega
      rw [← hV] at hsn HX
      obtain ⟨c, hc⟩ : ∃ c, c = s.getD i 0 := ⟨_, rfl⟩
      rw [← hc] at hsn
      have hc256 : c.toNat < 256 := c.toNat_lt
      have hsl : s.length = 36 := Hs.out
      have hor := u32_or V c.toNat hVb hc256
      have hwr : IntKind.u32.wrap ((V : Int) * 256) = (V : Int) * 256 := by rw [IntKind.wrap_u32]; omega
      have hcx : wr.drew.cell? ⟨gx, 0, none⟩ = some (.int .u32 (V : Int)) := by
        show wr.cell? _ = _
        rw [Blk.cell HX.out]; rfl
      have Hcx := Lib.hid hcx
      have Hgx : Hid (gx < wr.drew.heap.size) := Lib.hid HX.out.lt
      have hfx : wr.frozen? ⟨gx, 0, none⟩ = false := Blk.frozen HX.out 0
      have hcw : wr.cell? ⟨gx, 0, none⟩ = some (.int .u32 (V : Int)) := by rw [Blk.cell HX.out]; rfl
      have hz := zsig_set HX.out (V * 256 + c.toNat)
      rw [Int.natCast_add, Int.natCast_mul] at hz
      have Hz := Lib.hid hz
      clear hz
      have hwc : IntKind.u32.wrap ((c.toNat : Int)) = (c.toNat : Int) := by rw [IntKind.wrap_u32]; omega
      have Hsn := Lib.hid hsn
      have Hc := Lib.hid hc
      clear hlt h256 hV hsn hc hcx
      go_wp2_with fail
      refine CanB.region 9 (.op 0 2 (.op 1 1 (.op 2 2 (.op 3 2 (.op 4 2 (.op 5 2 (.op 6 2 (.op 7 2 (.op 8 2 (.op 9 0 (.nil))))))))))) (by kernel_rfl) (by kernel_rfl) ?_
      repeat (first | (refine CanT.skip rfl ?_ (fun K hK => ?_); (focus (go_simp; done)); go_simp; refine hK _ ?_; clear hK K) | (refine CanT.pur rfl ?_ ?_; (focus (go_simp; done)); refine ⟨?_, ?_, ?_⟩; rotate_left; (focus (intro w'; go_simp; rfl)); (focus (intro K hK; go_simp; refine hK _ ?_; clear hK K))) | (refine CanB.cell rfl ?_ (.int .u32 (V : Int)) (.int .u32 (V : Int)) ⟨gx, 0, none⟩ Hcx.out Hgx.out ?_ (fun K hK => ?_); (focus (go_simp; done)); (focus (intro w' hc'; go_simp; (try rfl))); go_simp; refine hK _ ?_; clear hK K) | (refine CanT.idxS rfl ?_ 9 _ _ rfl s i rfl rfl (by rw [hsl]; omega) Tryd.underlying9 (fun K hK => ?_); (focus (go_simp; done)); (try rw [← Hc.out]); go_simp; refine hK _ ?_; clear hK K))
      refine CanT.last rfl (fun K hK => ?_)
      go_simp
      refine hK.out _ _ ?_
      clear hK K
      refine CanT.done ?_
      go_wp2
      refine ⟨⟨i + 1, by omega, rfl, ?_, ?_, ?_⟩, by simp [intOf]; omega⟩
      · rw [Hsn.out]
        exact Hz.out
      · exact Blk.far HR.out (by simp; omega) _
      · exact (Below.setCell HB.out (by simp; omega) _).drew
    · have hi5 : i = 4 := by omega
      subst hi5
      obtain ⟨V, hV⟩ : ∃ V, V = Vm.val 0 (s.take 4) := ⟨_, rfl⟩
      rw [← hV] at HX
      have HV := Lib.hid hV
      have hsl : s.length = 36 := Hs.out
      have hd32 : (s.drop 4).length = 32 := by rw [List.length_drop, hsl]
      have hd32' : (ofB s).2.length = 32 := hd32
      clear hV
      go_wp2_with fail
      refine CanT.region (fun _ => True) 1000 (.op 0 2 (.op 1 2 (.op 2 2 (.op 3 2 (.op 4 0 (.nil)))))) (by kernel_rfl) (by kernel_rfl) trivial ?_
      repeat (first | (refine CanT.skip rfl ?_ (fun K hK => ?_); (focus (go_simp; done)); go_simp; refine hK _ ?_; clear hK K) | (refine CanT.pur rfl ?_ ?_; (focus (go_simp; done)); refine ⟨?_, ?_, ?_⟩; rotate_left; (focus (intro w'; go_simp; rfl)); (focus (intro K hK; go_simp; refine hK _ ?_; clear hK K))))
      obtain ⟨w5, hcp, hB5, hg5⟩ := copy_sig (V := V) HX.out.drew s hsl
      have HB5 := Lib.hid (HB.out.drew.trans (below_of_only hg5 (by omega) (by rw [← Hgr.out]; exact HB.out.drew.size)))
      have HS5 := Lib.hid hB5
      have HR5 := Lib.hid (HR.out.drew.grown hg5 (by simp; omega))
      clear hB5 hg5
      refine CanT.imp rfl (fun K hK => ?_)
      go_simp
      refine hK.out _ _ (trivial) ?_
      clear hK K
      repeat (first | (refine CanT.skip rfl ?_ (fun K hK => ?_); (focus (go_simp; done)); go_simp; refine hK _ ?_; clear hK K) | (refine CanT.pur rfl ?_ ?_; (focus (go_simp; done)); refine ⟨?_, ?_, ?_⟩; rotate_left; (focus (intro w'; go_simp; rfl)); (focus (intro K hK; go_simp; refine hK _ ?_; clear hK K))))
      refine CanT.done ?_
      go_wp2_with (first
        | (refine wpList_load_blk rfl 49 (.tmp 3) rfl gx 0 49 [] (sgv (V, s.drop 4)) [] rfl (by rw [List.append_nil, List.nil_append]; exact HS5.out) rfl _ Tryd.underlying49 rfl (by rw [sgv_len hd32]; kernel_rfl) ?_)
        | (refine wpList_store_blk rfl 49 (.tmp 2) (.tmp 23) rfl gr 0 49 [] (zsig 0) [] (sgv (V, s.drop 4)) rfl rfl (by rw [List.append_nil, List.nil_append]; exact HR5.out) rfl (by rw [sgv_len hd32]; rfl) (by rw [sgv_len hd32]; kernel_rfl) (sgv_one _) ?_; intro w6 hS6 hg6))
      have hS6' : Blk w6 gr 49 (sgv (ofB s)).toArray := by
        have e : ofB s = (V, s.drop 4) := by rw [HV.out]; rfl
        rw [e]
        simpa using hS6
      refine bodyPost_ret (results_cell_row (p := 2) (ty := 49) (by kernel_rfl) _ w6 gr 49 (sgv (ofB s)).toArray (0, 0) _ rfl hS6' Tryd.underlying49 rfl (by rw [List.size_toArray, sgv_len hd32']; kernel_rfl)) rfl ⟨rfl, ?_⟩
      rw [Hgr.out]
      exact HB5.out.trans (below_of_only hg6 (Nat.le_refl _) (by rw [← Hgr.out]; exact HB5.out.size))
end Bk
end Go.Proofs.YtcbkhbnemhkheaaDoor
/- What the program tells of a number of the wire: its width, and what bytes begin with. -/
namespace Go.Proofs.YtcbkhbnemhkheaaDoor
namespace Vi
open Go.RowKit Ba Vm
set_option linter.unusedVariables false

theorem widths_calls (w : World) : Calls Tryd.prog 80 #[] w fun e w' => e = .returned (.agg #[.int .i64 1, .int .i64 2, .int .i64 4, .int .i64 8]) ∧ Below w.heap.size w w' := by
  go_enter Tryd.func80, Tryd.ntmps80
  go_wp2
  exact bodyPost_ret (v := .agg #[.int .i64 1, .int .i64 2, .int .i64 4, .int .i64 8]) (by simp [results, Tryd.results80, go_sem]) rfl ⟨rfl, (Below.refl _ _).alloc (Nat.le_refl _) _⟩

theorem ret_bool {a b : Bool} (h : a = b) : Ending.returned (.bool a) = .returned (.bool b) := by rw [h]
theorem ret_int {k : IntKind} {a b : Int} (h : a = b) : Ending.returned (.int k a) = .returned (.int k b) := by rw [h]

theorem fits_yes (n : Int) (k : Nat) (hn : 0 ≤ n) (hk : W4 k) (h : n < lim k) (w : World) : Calls Tryd.prog 81 #[.int .i64 n, .int .i64 k] w fun e w' => e = .returned (.bool true) ∧ w = w' := by
  rcases hk with rfl | rfl | rfl | rfl
  all_goals
    simp only [lim] at h
    have hn2 : n ≤ 9223372036854775807 := by omega
    go_enter Tryd.func81, Tryd.ntmps81
    go_wp2
    go_ret
    exact ⟨ret_bool (by first | (simp; done) | (simp; omega)), rfl⟩
theorem fits_no (n : Int) (k : Nat) (hn2 : n ≤ 9223372036854775807) (hk : W4 k) (h : n < 0 ∨ lim k ≤ n) (w : World) : Calls Tryd.prog 81 #[.int .i64 n, .int .i64 k] w fun e w' => e = .returned (.bool false) ∧ w = w' := by
  rcases hk with rfl | rfl | rfl | rfl
  all_goals
    simp only [lim] at h
    rcases h with h | h
    · go_enter Tryd.func81, Tryd.ntmps81
      go_wp2
      go_ret
      exact ⟨rfl, rfl⟩
    · go_enter Tryd.func81, Tryd.ntmps81
      go_wp2
      go_ret
      exact ⟨ret_bool (by simp; omega), rfl⟩

set_option maxRecDepth 100000 in
set_option maxHeartbeats 400000 in
theorem len_calls (n : Int) (hn : n ≤ 9223372036854775807) (w : World) : Calls Tryd.prog 70 #[.int .i64 n] w fun e w' => e = .returned (.int .i64 (len n : Int)) ∧ Below w.heap.size w w' := by
  go_enter Tryd.func70, Tryd.ntmps70
  go_wp2_with (go_at_call 80; refine (widths_calls _).mono ?_; rintro e w1 ⟨rfl, hb1⟩)
  go_loop [6] (fun i => ∃ k : Nat, k ≤ 4 ∧ i = .int .i64 k ∧ (0 < k → n < 0 ∨ lim (2 ^ (k - 1)) ≤ n)) (fun i => 4 - (intOf i).toNat)
  case atStart => exact ⟨0, by omega, rfl, by omega⟩
  case round =>
    obtain ⟨k, hk, rfl, hp⟩ := hrel
    by_cases h4 : k = 4
    · subst h4
      go_wp2
      go_ret
      exact ⟨ret_int (by rw [len_none n (by have := hp (by omega); simpa [lim] using this)]; rfl), hb1⟩
    · have hw : W4 (2 ^ k) := by
        unfold W4
        have : k = 0 ∨ k = 1 ∨ k = 2 ∨ k = 3 := by omega
        rcases this with rfl | rfl | rfl | rfl <;> simp
      have hx : ∀ w : World, (Instr.index 132 (.agg #[.int .i64 1, .int .i64 2, .int .i64 4, .int .i64 8]) (.int .i64 (k : Int))).run Tryd.prog w = .ok (.int .i64 ((2 ^ k : Nat) : Int)) w := by
        have : k = 0 ∨ k = 1 ∨ k = 2 ∨ k = 3 := by omega
        rcases this with rfl | rfl | rfl | rfl <;> exact fun _ => by kernel_rfl
      by_cases hc : 0 ≤ n ∧ n < lim (2 ^ k)
      · go_wp2_with (go_at_call 81; refine (fits_yes n (2 ^ k) hc.1 hw hc.2 _).mono ?_; rintro e w' ⟨rfl, rfl⟩)
        go_ret
        exact ⟨ret_int (by rw [len_pow n k (by omega) hc.1 hc.2 hp]; rfl), hb1⟩
      · go_wp2_with (go_at_call 81; refine (fits_no n (2 ^ k) hn hw (by omega) _).mono ?_; rintro e w' ⟨rfl, rfl⟩)
        go_round
        case rel => exact ⟨k + 1, by omega, by go_num, fun _ => by simp; omega⟩
        case measure => simp [intOf]; omega

set_option maxRecDepth 100000 in
set_option maxHeartbeats 400000 in
theorem tell_calls (d : Int) (w : World) : Calls Tryd.prog 82 #[.int .i64 d] w fun e w' => e = .returned (.int .i64 (tell d)) ∧ Below w.heap.size w w' := by
  go_enter Tryd.func82, Tryd.ntmps82
  go_wp2_with (go_at_call 80; refine (widths_calls _).mono ?_; rintro e w1 ⟨rfl, hb1⟩)
  go_loop [6] (fun i => ∃ k : Nat, k ≤ 4 ∧ i = .int .i64 k ∧ (∀ j : Nat, j < k → d ≠ ((2 ^ j : Nat) : Int))) (fun i => 4 - (intOf i).toNat)
  case atStart => exact ⟨0, by omega, rfl, by omega⟩
  case round =>
    obtain ⟨k, hk, rfl, hp⟩ := hrel
    by_cases h4 : k = 4
    · subst h4
      have ht := Lib.hid (tell_none d hp)
      clear hp
      go_wp2
      go_ret
      exact ⟨ret_int (by rw [ht.out]), hb1⟩
    · have hx : ∀ w : World, (Instr.index 132 (.agg #[.int .i64 1, .int .i64 2, .int .i64 4, .int .i64 8]) (.int .i64 (k : Int))).run Tryd.prog w = .ok (.int .i64 ((2 ^ k : Nat) : Int)) w := by
        have : k = 0 ∨ k = 1 ∨ k = 2 ∨ k = 3 := by omega
        rcases this with rfl | rfl | rfl | rfl <;> exact fun _ => by kernel_rfl
      have Hp := Lib.hid hp
      clear hp
      by_cases hc : d = ((2 ^ k : Nat) : Int)
      · subst hc
        go_wp2
        go_ret
        exact ⟨ret_int (by have := tell_pow k (by omega); simpa using this.symm), hb1⟩
      · obtain ⟨x, hX⟩ : ∃ x : Int, x = ((2 ^ k : Nat) : Int) := ⟨_, rfl⟩
        rw [← hX] at hc hx
        have hcb : (x == d) = false := by rw [beq_eq_false_iff_ne]; exact fun h => hc h.symm
        have HX := Lib.hid hX
        clear hX
        go_wp2
        have hk1 : k + 1 ≤ 4 := by clear hcb; omega
        refine ⟨⟨k + 1, hk1, by go_num, fun j hj => ?_⟩, by simp [intOf]; clear hcb; omega⟩
        rcases Nat.lt_or_ge j k with h | h
        · exact Hp.out j h
        · have : j = k := by clear hcb; omega
          subst this; rw [← HX.out]; exact hc

set_option maxHeartbeats 400000 in
theorem get_calls (l : List UInt8) (A : Option Addr) (c B : Nat) (w : World) (h : ReadB w B A l) (hlc : l.length ≤ c) (hcm : c ≤ 9223372036854775807) :
    Calls Tryd.prog 85 #[.slice A l.length c] w fun e w' => e = .returned (.tuple #[.int .i64 (get l).1, .int .i64 (get l).2.1, .int .i64 (get l).2.2]) ∧ w = w' := by
  rcases l with _ | ⟨b, r⟩
  · go_enter Tryd.func85, Tryd.ntmps85
    go_wp2
    go_ret3
    exact ⟨rfl, rfl⟩
  · obtain ⟨ab, ao, rfl, hb, hc0⟩ := h.head (by simp)
    simp only [List.getD_cons_zero] at hc0
    have hb8 := u8_lt b
    have hn : r.length + 1 ≤ c := hlc
    have hq : (b.toNat : Int) / 64 = 0 ∨ (b.toNat : Int) / 64 = 1 ∨ (b.toNat : Int) / 64 = 2 ∨ (b.toNat : Int) / 64 = 3 := by omega
    have hw : w8 b = 2 ^ ((b.toNat : Int) / 64).toNat := by unfold w8; congr 1
    rcases hq with hq | hq | hq | hq
    all_goals
      rw [hq] at hw
      simp at hw
      by_cases hlt : (b :: r).length < w8 b
      · have hg := Lib.hid (get_lt b r hlt)
        rw [hw, List.length_cons] at hlt
        clear hw
        go_enter Tryd.func85, Tryd.ntmps85
        go_wp2
        all_goals
          go_ret3
          exact ⟨by rw [hg.out]; rfl, rfl⟩
      · have hg := Lib.hid (get_ge b r hlt)
        rw [hw, List.length_cons] at hlt
        go_enter Tryd.func85, Tryd.ntmps85
        by_cases hc1 : c = 1
        all_goals try (exfalso; omega)
        all_goals
          go_wp2
          go_loop [2, 29] (fun n i => ∃ k : Nat, k + 1 ≤ w8 b ∧ i = .int .i64 k ∧ n = .int .i64 (val (b.toNat % 64) (r.take k))) (fun _ i => 8 - (intOf i).toNat)
          case atStart => exact ⟨0, by omega, rfl, by simp [val]⟩
          case round =>
            obtain ⟨k, hk, rfl, rfl⟩ := hrel
            by_cases hkw : k + 1 < w8 b
            · have hce : w.cell? ⟨ab, ao + 1 + k, none⟩ = some (.int .u8 ((r.getD k 0).toNat : Int)) := by
                obtain ⟨_, _, e1, _, h2⟩ := h (by simp)
                injection e1 with e1
                injection e1 with e1 e2
                subst e1 e2
                have := h2 (1 + k) (by simp; omega)
                rw [← Nat.add_assoc, Nat.add_comm 1 k] at this
                exact this
              have hv := val_small b r k (by omega)
              have hvs := Lib.hid (val_snoc (b.toNat % 64) r k (by omega))
              have hc8 := u8_lt (r.getD k 0)
              generalize val (b.toNat % 64) (r.take k) = V at hv hvs
              generalize (r.getD k 0).toNat = Cc at hce hvs hc8
              go_wp2
              all_goals
                refine ⟨⟨k + 1, by omega, by go_num, ?_⟩, by simp [intOf]; omega⟩
                rw [hvs.out, or_byte V Cc hv hc8.1]
            · go_wp2
              all_goals
                go_ret3
                have hk1 : k = w8 b - 1 := by omega
                subst hk1
                exact ⟨by rw [hg.out, hw]; rfl, rfl⟩

end Vi
end Go.Proofs.YtcbkhbnemhkheaaDoor
/- What laying and reading a number of the wire does, of the program. -/
namespace Go.Proofs.YtcbkhbnemhkheaaDoor
namespace Vi
open Go.RowKit Ba Vm
set_option linter.unusedVariables false
theorem info5 : (Tryd.prog.info? 5).map (fun i => (i.zero, i.size, i.bytes)) = some (some (.int .u8 0), 1, 1) := by kernel_rfl
theorem ret2 {a b : Value} {x y : Value} (h : a = x) (h2 : b = y) : Ending.returned (.tuple #[a, b]) = .returned (.tuple #[x, y]) := by rw [h, h2]

set_option maxRecDepth 100000 in
set_option maxHeartbeats 400000 in
theorem putIn_calls (n d : Int) (hn : n ≤ 9223372036854775807) (w : World) : Calls Tryd.prog 71 #[.int .i64 n, .int .i64 d] w
    fun e w' => ∃ v, e = .returned (.tuple #[v, .int .i64 (putIn n d).2]) ∧ OwnB w' w.heap.size 5 v (putIn n d).1 ∧ Below w.heap.size w w' := by
  by_cases hd : d = 1 ∨ d = 2 ∨ d = 4 ∨ d = 8
  · obtain ⟨k, rfl, hk⟩ : ∃ k : Nat, d = (k : Int) ∧ W4 k := ⟨d.toNat, by omega, by unfold W4; omega⟩
    have ht : tell k = tag k := tell_tag k hk
    have ht3 : tag k ≤ 3 := by rcases hk with rfl | rfl | rfl | rfl <;> simp [tag]
    have hk8 : 1 ≤ k ∧ k ≤ 8 := by rcases hk with rfl | rfl | rfl | rfl <;> omega
    by_cases hf : n < 0 ∨ lim k ≤ n
    · have hp : putIn n k = ([], 13) := by unfold putIn; rw [if_neg (by rw [Classical.not_not]; exact hd), if_pos (by simpa using hf)]
      have Hp := Lib.hid hp
      have Ht := Lib.hid ht
      clear hp ht
      go_enter Tryd.func71, Tryd.ntmps71
      go_wp2_with (first
        | (go_at_call 82; refine (tell_calls _ _).mono ?_; rw [Ht.out]; rintro e w1 ⟨rfl, hb1⟩)
        | (go_at_call 81; refine (fits_no n k hn hk hf _).mono ?_; rintro e w2 ⟨rfl, rfl⟩))
      go_ret2
      exact ⟨.slice none 0 0, by rw [Hp.out]; rfl, by rw [Hp.out]; exact OwnB.nil, hb1⟩
    · have hp : putIn n k = (enc n.toNat k, 0) := putIn_ok n k hk (by omega) (by omega)
      have Hp := Lib.hid hp
      have Ht := Lib.hid ht
      clear hp ht
      obtain ⟨i0, hi0, hz0, hz1, hz2⟩ := info_parts info5
      obtain ⟨N, rfl⟩ : ∃ N : Nat, n = (N : Int) := ⟨n.toNat, by omega⟩
      go_enter Tryd.func71, Tryd.ntmps71
      go_wp2_with (first
        | (go_at_call 82; refine (tell_calls _ _).mono ?_; rw [Ht.out]; rintro e w1 ⟨rfl, hb1⟩)
        | (go_at_call 81; refine (fits_yes _ k (by omega) hk (by omega) _).mono ?_; rintro e w2 ⟨rfl, rfl⟩)
        | (at_make; go_loud (refine wpList_make_full _ rfl (.tmp 19) (.tmp 19) 22 rfl w.heap.size 5 i0 (.int .u8 0) 1 Tryd.underlying22 hi0 hz0 hz1 .i64 .i64 _ _ k rfl rfl rfl rfl (by rw [hz2]; omega) (by unfold maxLen; omega) hb1.size ?_); intro w3 hown3 hg3))
      obtain ⟨g, hgq⟩ : ∃ g, g = w1.heap.size := ⟨_, rfl⟩
      rw [← hgq] at hown3
      rw [← hgq]
      have hge : w.heap.size ≤ g := by rw [hgq]; exact hb1.size
      have hb3 : Below w.heap.size w w3 := hb1.grown hg3 hb1.size (by simp)
      have hrow : w3.ownsRow w.heap.size 5 1 (.slice (some ⟨g, 0, none⟩) k k) k (bvs (List.replicate k 0 ++ be 0 N)) := by
        have e : (madeCells (Value.int .u8 0).cells (k * 1)).toList = bvs (List.replicate k 0 ++ be 0 N) := by
          simp [Value.cells, toList_madeCells_one, be, bvs, bv]
        rw [← e]; exact hown3
      clear hown3 hg3 hgq hb1
      go_loopw [0, 8] (fun n i wr => ∃ j : Nat, j ≤ k ∧ i = .int .i64 ((j : Int) - 1) ∧ n = .int .i64 ((N / 256 ^ (k - j) : Nat) : Int) ∧ wr.ownsRow w.heap.size 5 1 (.slice (some ⟨g, 0, none⟩) k k) k (bvs (List.replicate j 0 ++ be (k - j) N)) ∧ Below w.heap.size w wr) (fun _ i _ => (intOf i + 1).toNat)
      case atStart => exact ⟨k, Nat.le_refl _, rfl, by simp, by simpa using hrow, hb3⟩
      case round =>
        obtain ⟨j, hj, rfl, rfl, hrj, hbj⟩ := hrel
        clear hrow hb3
        rcases j with _ | m
        · have hc0 := hrj.cellAt 0 (by omega)
          have hL : bvs (List.replicate 0 0 ++ be (k - 0) N) = bvs (be k N) := by simp
          rw [hL] at hc0 hrj
          clear hL
          have hb0 := bvs_get (be k N) 0 (by rw [be_length]; omega)
          rw [be_head N k (by omega), UInt8.toNat_ofNat'] at hb0
          rw [hb0] at hc0
          clear hb0
          obtain ⟨V, hV⟩ : ∃ V : Nat, V = N / 256 ^ (k - 1) % 256 := ⟨_, rfl⟩
          rw [show (256 : Nat) = 2 ^ 8 from rfl] at hV
          rw [← hV] at hc0
          have hV2 : V < 256 := by rw [hV]; exact Nat.mod_lt _ (by omega)
          have HV := Lib.hid hV
          clear hV
          have hf0 := hrj.frozenAt 0
          go_wp2
          go_ret2
          have hor := u8_or_nat V (tag k * 64) (by omega) (by omega)
          rw [show ((tag k : Int) * 64) = ((tag k * 64 : Nat) : Int) by omega, hor]
          have hor2 : V ||| tag k * 64 < 256 := Nat.or_lt_two_pow (n := 8) (by omega) (by omega)
          obtain ⟨hs1, hs2⟩ := hrj.stored 0 (.int .u8 ((V ||| tag k * 64 : Nat) : Int))
          rw [bvs_set _ _ _ hor2, HV.out, enc_of_be N k hk (by omega)] at hs1
          refine ⟨.slice (some ⟨g, 0, none⟩) k k, by rw [Hp.out]; rfl, ?_, ?_⟩
          · rw [Hp.out, HV.out]
            have e : (enc N k).length = k := enc_length N k
            show World.ownsRow _ _ _ _ _ (enc ((N : Int)).toNat k).length _
            rw [Int.toNat_natCast, e]
            exact hs1
          · exact hbj.setCell hge _
        · have hcm := hrj.cellAt m (by omega)
          have hfm := hrj.frozenAt m
          rw [show (((m + 1 : Nat) : Int) - 1) = (m : Int) from by omega]
          obtain ⟨V, hV⟩ : ∃ V : Nat, V = N / 256 ^ (k - (m + 1)) := ⟨_, rfl⟩
          rw [← hV]
          have HV := Lib.hid hV
          clear hV
          obtain ⟨uu, hu⟩ : ∃ u, (bvs (List.replicate (m + 1) 0 ++ be (k - (m + 1)) N))[m]? = some u := ⟨_, List.getElem?_eq_getElem (by rw [bvs_length]; simp; omega)⟩
          rw [hu] at hcm
          clear hu
          go_wp2
          obtain ⟨hs1, hs2⟩ := hrj.stored m (.int .u8 ((V % 256 : Nat) : Int))
          rw [bvs_set _ _ _ (by omega), HV.out, be_set N k m hj] at hs1
          refine ⟨⟨m, by omega, rfl, ?_, ?_, hbj.setCell hge _⟩, by simp [intOf]⟩
          · rw [HV.out]
            have e : k - m = (k - (m + 1)) + 1 := by omega
            rw [e, Nat.pow_succ, ← Nat.div_div_eq_div_mul]
            simp
          · rw [show ((V : Int) % 256) = ((V % 256 : Nat) : Int) by omega, HV.out]
            exact hs1
  · have ht : tell d = -1 := by unfold tell; simp only [not_or] at hd; simp [hd]
    have hp : putIn n d = ([], 2) := by unfold putIn; rw [if_pos hd]
    have Hp := Lib.hid hp
    have Ht := Lib.hid ht
    clear hp ht
    go_enter Tryd.func71, Tryd.ntmps71
    go_wp2_with (go_at_call 82; refine (tell_calls _ _).mono ?_; rw [Ht.out]; rintro e w1 ⟨rfl, hb1⟩)
    go_ret2
    exact ⟨.slice none 0 0, by rw [Hp.out]; rfl, by rw [Hp.out]; exact OwnB.nil, hb1⟩

set_option maxRecDepth 100000 in
set_option maxHeartbeats 400000 in
theorem put_calls (n : Int) (hn : n ≤ 9223372036854775807) (w : World) : Calls Tryd.prog 56 #[.int .i64 n] w
    fun e w' => ∃ v, e = .returned (.tuple #[v, .int .i64 (put n).2]) ∧ OwnB w' w.heap.size 5 v (put n).1 ∧ Below w.heap.size w w' := by
  have Hp := Lib.hid (put_eq n)
  rcases Nat.eq_zero_or_pos (len n) with h0 | h0
  · have H0 := Lib.hid h0
    clear h0
    go_enter Tryd.func56, Tryd.ntmps56
    go_wp2_with (go_at_call 70; refine (len_calls _ hn _).mono ?_; rw [H0.out]; rintro e w1 ⟨rfl, hb1⟩)
    go_ret2
    exact ⟨.slice none 0 0, by rw [Hp.out, if_pos H0.out]; rfl, by rw [Hp.out, if_pos H0.out]; exact OwnB.nil, hb1⟩
  · go_enter Tryd.func56, Tryd.ntmps56
    go_wp2_with (first
      | (go_at_call 70; refine (len_calls _ hn _).mono ?_; rintro e w1 ⟨rfl, hb1⟩)
      | (go_at_call 71; refine (putIn_calls _ _ hn _).mono ?_; rintro e w2 ⟨v, rfl, ho, hb2⟩))
    go_ret2
    have hz : ¬ len n = 0 := by omega
    exact ⟨v, by rw [Hp.out, if_neg hz]; rfl, by rw [Hp.out, if_neg hz]; exact ho.weak hb1.size, hb1.trans (hb2.mono hb1.size)⟩

set_option maxRecDepth 100000 in
set_option maxHeartbeats 400000 in
theorem shortest_calls (l : List UInt8) (A : Option Addr) (c B : Nat) (w : World) (h : ReadB w B A l) (hlc : l.length ≤ c) (hcm : c ≤ 9223372036854775807) :
    Calls Tryd.prog 74 #[.slice A l.length c] w fun e w' => e = .returned (.tuple #[.int .i64 (shortest l).1, .int .i64 (shortest l).2.1, .int .i64 (shortest l).2.2]) ∧ Below w.heap.size w w' := by
  have hbd := get_bound l
  have hg : ∃ n u e, get l = (n, u, e) := ⟨_, _, _, rfl⟩
  obtain ⟨n, u, e0, hg⟩ := hg
  rw [hg] at hbd
  simp only at hbd
  obtain ⟨h1, h2, h3⟩ := hbd
  have Hg := Lib.hid hg
  clear hg
  have hsh : shortest l = if e0 ≠ 0 then (0, 0, e0) else if len n < u then (0, 0, 4) else (n, u, e0) := by
    have e := Hg.out
    unfold shortest
    rw [e]
  have Hs := Lib.hid hsh
  clear hsh
  rcases h3 with rfl | rfl
  · obtain ⟨hu, hul⟩ := h2 rfl
    clear h2
    by_cases hlt : len n < u
    · have hlt' : decide ((len n : Int) < (u : Int)) = true := by simpa using hlt
      go_enter Tryd.func74, Tryd.ntmps74
      go_wp2_with (first
        | (go_at_call 85; refine (get_calls l A c B _ h hlc hcm).mono ?_; rw [Hg.out]; rintro e w1 ⟨rfl, rfl⟩)
        | (go_at_call 70; refine (len_calls _ (by omega) _).mono ?_; rintro e w1 ⟨rfl, hb1⟩))
      go_ret3
      exact ⟨by rw [Hs.out, if_neg (by simp), if_pos hlt]; rfl, hb1⟩
    · have hlt' : decide ((len n : Int) < (u : Int)) = false := by simpa using hlt
      go_enter Tryd.func74, Tryd.ntmps74
      go_wp2_with (first
        | (go_at_call 85; refine (get_calls l A c B _ h hlc hcm).mono ?_; rw [Hg.out]; rintro e w1 ⟨rfl, rfl⟩)
        | (go_at_call 70; refine (len_calls _ (by omega) _).mono ?_; rintro e w1 ⟨rfl, hb1⟩))
      go_ret3
      exact ⟨by rw [Hs.out, if_neg (by simp), if_neg hlt]; rfl, hb1⟩
  · go_enter Tryd.func74, Tryd.ntmps74
    go_wp2_with (go_at_call 85; refine (get_calls l A c B _ h hlc hcm).mono ?_; rw [Hg.out]; rintro e w1 ⟨rfl, rfl⟩)
    go_ret3
    have e := get_err l (by rw [Hg.out]; simp)
    rw [Hg.out] at e
    simp only [Prod.mk.injEq, and_true] at e
    exact ⟨by rw [Hs.out, if_pos (by simp), e.1, e.2]; rfl, Below.refl _ _⟩
end Vi
end Go.Proofs.YtcbkhbnemhkheaaDoor
/- What laying numbers and texts does, of the program. -/
namespace Go.Proofs.YtcbkhbnemhkheaaDoor
namespace Fi
open Go.RowKit Ba Vm Fm Vi
set_option linter.unusedVariables false

set_option maxHeartbeats 400000 in
theorem num_calls (n : Int) (hn : n ≤ 9223372036854775807) (w : World) : Calls Tryd.prog 35 #[.int .i64 n] w
    fun e w' => ∃ v, e = .returned v ∧ OwnB w' w.heap.size 5 v (num n) ∧ Below w.heap.size w w' := by
  have Hn := Lib.hid (num_none n)
  rcases put_snd n with h0 | h0
  · go_enter Tryd.func35, Tryd.ntmps35
    go_wp2_with fail
    refine (put_calls n hn _).mono ?_
    rw [h0]
    rintro e w1 ⟨v1, rfl, ho1, hb1⟩
    go_wp2_with fail
    go_ret
    exact ⟨v1, rfl, ho1, hb1⟩
  · have he : num n = [] := Hn.out (by rw [h0]; simp)
    have He := Lib.hid he
    clear he
    go_enter Tryd.func35, Tryd.ntmps35
    go_wp2_with fail
    refine (put_calls n hn _).mono ?_
    rw [h0]
    rintro e w1 ⟨v1, rfl, ho1, hb1⟩
    go_wp2_with fail
    go_ret
    exact ⟨.slice none 0 0, rfl, by rw [He.out]; exact OwnB.nil, hb1⟩

set_option maxHeartbeats 400000 in
theorem grow_calls (n : Nat) (hn : n ≤ 140737488355328) (w : World) : Calls Tryd.prog 69 #[.slice none 0 0, .int .i64 (n : Int)] w
    fun e w' => ∃ v, e = .returned v ∧ OwnB w' w.heap.size 5 v [] ∧ Below w.heap.size w w' := by
  obtain ⟨i0, hi0⟩ := isByte_of info5
  have Hi := Lib.hid hi0
  clear hi0
  by_cases hz : n = 0
  · subst hz
    go_enter Tryd.func69, Tryd.ntmps69
    go_wp2
    go_ret
    exact ⟨.slice none 0 0, rfl, OwnB.nil, Below.refl _ _⟩
  · go_enter Tryd.func69, Tryd.ntmps69
    go_wp2_with (at_builtin; go_loud (refine Lib.wpList_append_run _ rfl (.tmp 20) (.tmp 21) 22 3 rfl _ _ rfl rfl _ _ (Lib.run_append_nil_zeros (P := Tryd.prog) _ 22 3 _ 5 i0 (.int .u8 0) .i64 .i64 Tryd.underlying22 Tryd.underlying3 Hi.out.1 Hi.out.2.1 n (by omega) (by rw [Hi.out.2.2.1]; omega) (by omega) (by rw [Hi.out.2.2.2]; omega)) ?_))
    go_ret
    have hge := grownCap_ge w n 0 5
    have hcm : grownCap w n 0 5 ≤ maxLen := grownCap_le_maxLen w n 0 5 (by unfold maxLen; omega)
    refine ⟨_, rfl, ⟨rfl, .inr ⟨w.heap.size, grownCap w n 0 5, _, rfl, Nat.le_refl _, heap_alloc_new w.drew _, Nat.zero_le _, hcm, ?_, by simp [bvs]⟩⟩, ?_⟩
    · have hz1 : (#[Value.int IntKind.u8 0] : Array Value).size = 1 := rfl
      rw [Array.size_append, size_zeroCells, size_zeroCells, hz1]
      omega
    · exact ((Below.refl _ _).drew).alloc (Nat.le_refl _) _

def sumLen : List (List UInt8) → Nat
  | [] => 0
  | p :: ps => p.length + sumLen ps
theorem sumLen_take (ps : List (List UInt8)) (k : Nat) (h : k < ps.length) : sumLen (ps.take (k + 1)) = sumLen (ps.take k) + (ps.getD k []).length := by
  induction ps generalizing k with
  | nil => simp at h
  | cons p ps ih =>
    cases k with
    | zero => simp [sumLen]
    | succ k =>
      have := ih k (by simpa using h)
      simp only [List.take_succ_cons, sumLen, this]
      simp [List.getD]
      omega
theorem sumLen_take_le (ps : List (List UInt8)) (k : Nat) : sumLen (ps.take k) ≤ sumLen ps := by
  induction ps generalizing k with
  | nil => simp
  | cons p ps ih =>
    cases k with
    | zero => simp [sumLen]
    | succ k => have := ih k; simp only [List.take_succ_cons, sumLen]; omega
theorem flatten_len (ps : List (List UInt8)) : ps.flatten.length = sumLen ps := by
  induction ps with
  | nil => rfl
  | cons p ps ih => simp [sumLen, ih]
theorem flatten_take (ps : List (List UInt8)) (k : Nat) (h : k < ps.length) : (ps.take (k + 1)).flatten = (ps.take k).flatten ++ ps.getD k [] := by
  rw [List.take_succ_eq_append_getElem h, List.flatten_append]
  simp [List.getD, h]

set_option maxHeartbeats 800000 in
theorem concat_calls (ps : List (List UInt8)) (A : Option Addr) (c : Nat) (w : World) (h : ReadBB w w.heap.size A ps) (hps : ps.length ≤ 140737488351232) (hsum : sumLen ps ≤ 140737488355328) :
    Calls Tryd.prog 55 #[.slice A ps.length c] w
    fun e w' => ∃ v, e = .returned v ∧ OwnB w' w.heap.size 5 v ps.flatten ∧ Below w.heap.size w w' := by
  obtain ⟨i0, hi0⟩ := isByte_of info5
  have Hi := Lib.hid hi0
  clear hi0
  go_enter Tryd.func55, Tryd.ntmps55
  go_wp2_with fail
  go_loop [3, 11] (fun z i => ∃ k : Nat, k ≤ ps.length ∧ i = .int .i64 k ∧ z = .int .i64 (sumLen (ps.take k))) (fun _ i => ps.length - (intOf i).toNat)
  case atStart => exact ⟨0, Nat.zero_le _, rfl, rfl⟩
  case round =>
    obtain ⟨k, hk, rfl, rfl⟩ := hrel
    by_cases hkl : k < ps.length
    · obtain ⟨b, o, rfl, hb, hc⟩ := h (by omega)
      obtain ⟨Ak, ck, h1, h2, h3, h4⟩ := hc k hkl
      have Hc := Lib.hid hc
      have Hh := Lib.hid h
      have hst := sumLen_take ps k hkl
      have hle := sumLen_take_le ps (k + 1)
      clear hc h
      obtain ⟨p, hp⟩ : ∃ p, p = ps.getD k [] := ⟨_, rfl⟩
      rw [← hp] at h1 h2 h4 hst
      rw [hst] at hle
      have Hst := Lib.hid hst
      clear hp hst
      generalize sumLen (ps.take k) = s1 at Hst hle
      go_wp2
      all_goals
        refine ⟨⟨k + 1, by omega, by go_num, by rw [Hst.out]; go_num⟩, by simp [intOf]; omega⟩
    · have hke : k = ps.length := by omega
      subst hke
      have Ht : Hid (sumLen (ps.take ps.length) = sumLen ps) := by show _ = _; rw [List.take_length]
      have hsn : 0 ≤ (sumLen ps : Int) := by omega
      rw [Ht.out]
      clear hkl
      have Hh := Lib.hid h
      clear h
      go_wp2_with (go_at_call 69; go_must (refine (grow_calls (sumLen ps) hsum _).mono ?_); rintro e w1 ⟨v1, rfl, ho1, hb1⟩)
      have h1 := Hh.out.below hb1
      have Ho1 := Lib.hid ho1
      have Hb1 := Lib.hid hb1
      clear ho1 hb1
      go_loopw [6, 27] (fun s i wr => ∃ k : Nat, k ≤ ps.length ∧ i = .int .i64 k ∧ OwnB wr w.heap.size 5 s ((ps.take k).flatten) ∧ Below w.heap.size w wr) (fun _ i _ => ps.length - (intOf i).toNat)
      case atStart => exact ⟨0, Nat.zero_le _, rfl, Ho1.out, Hb1.out⟩
      case round =>
        obtain ⟨k, hk, rfl, hok, hbk⟩ := hrel
        have hl1 := flatten_len (ps.take k)
        by_cases hkl : k < ps.length
        · obtain ⟨b, o, rfl, hb, hc⟩ := Hh.out.below hbk (by omega)
          obtain ⟨Ak, ck, h1, h2, h3, h4⟩ := hc k hkl
          have Hc := Lib.hid hc
          have hst := sumLen_take ps k hkl
          have hle := sumLen_take_le ps (k + 1)
          have hfl := flatten_take ps k hkl
          clear hc
          obtain ⟨p, hp⟩ : ∃ p, p = ps.getD k [] := ⟨_, rfl⟩
          rw [← hp] at h1 h2 h4 hst hfl
          rw [hst, ← hl1] at hle
          have Hfl := Lib.hid hfl
          have Hok := Lib.hid hok
          have Hbk := Lib.hid hbk
          clear hp hst hl1 hfl hok hbk
          go_wp2_with (at_builtin; go_loud (refine wpList_appB _ rfl (.tmp 31) (.tmp 32) 22 rfl w.heap.size 5 i0 Tryd.underlying22 Hi.out _ _ rfl Hok.out w.heap.size Ak _ ck p rfl rfl h4 (by omega) Hbk.out.size ?_); intro v2 w2 hown2 hg2 hat2 hbw2)
          all_goals
            refine ⟨⟨k + 1, by omega, by go_num, by rw [Hfl.out]; exact hown2, Hbk.out.trans hbw2⟩, by simp [intOf]; omega⟩
        · have hke : k = ps.length := by omega
          subst hke
          rw [List.take_length] at hok
          have Hok := Lib.hid hok
          clear hok
          go_wp2
          go_ret
          exact ⟨_, rfl, Hok.out, hbk⟩

set_option maxHeartbeats 400000 in
theorem join_calls (ps : List (List UInt8)) (A : Option Addr) (c : Nat) (w : World) (h : ReadBB w w.heap.size A ps) (hps : ps.length ≤ 140737488351232) (hsum : sumLen ps ≤ 140737488355328) :
    Calls Tryd.prog 34 #[.slice A ps.length c] w
    fun e w' => ∃ v, e = .returned v ∧ OwnB w' w.heap.size 5 v ps.flatten ∧ Below w.heap.size w w' := by
  go_enter Tryd.func34, Tryd.ntmps34
  go_wp2_with (go_at_call 55; go_must (refine (concat_calls ps A c _ h hps hsum).mono ?_); rintro e w1 ⟨v1, rfl, ho1, hb1⟩)
  go_ret
  exact ⟨_, rfl, ho1, hb1⟩
end Fi
end Go.Proofs.YtcbkhbnemhkheaaDoor

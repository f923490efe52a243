/- A search of the program: a copy is told. -/
import Derived.Test.YtiofkhjpknfkgaaDoorP01
import Derived.Test.YtiofkhjpknfkgaaDoorP02
import Derived.Test.YtiofkhjpknfkgaaDoorP03
import Derived.Test.YtiofkhjpknfkgaaDoorP04
import Derived.Test.YtiofkhjpknfkgaaDoorP05
import Derived.Test.YtiofkhjpknfkgaaDoorP06
import Derived.Test.YtiofkhjpknfkgaaDoorP07
import Derived.Test.YtiofkhjpknfkgaaDoorP08
import Derived.Test.YtiofkhjpknfkgaaDoorP09
namespace Go.Proofs.YtiofkhjpknfkgaaDoor
namespace Ms
open Go.RowKit Ba Tm Os_
set_option linter.unusedVariables false
theorem set_row (l r : List Value) (k : Nat) (v : Value) (h : k = l.length + 2) : (l ++ r).set k v = l ++ r.set 2 v := by
  subst h
  rw [List.set_append_right _ _ (by omega)]
  congr 2
  omega
/-- the last operation: where it lies, and what becomes of it where its size is written anew -/
theorem own_last {w : World} {base : Nat} {u : Value} {L : List Ow} {x1 : Bool} {x2 x3 : Int} {x4 : List UInt8} {D : Option Addr} {e : Nat} (h : OwnO w base u (L ++ [(⟨x1, x2, x3, x4⟩, D, e)])) :
    ∃ gu cu cs, u = .slice (some ⟨gu, 0, none⟩) (L.length + 1) cu ∧ base ≤ gu ∧ L.length + 1 ≤ cu ∧ cu ≤ 9223372036854775807 ∧ Blk w gu 40 cs ∧ w.cell? ⟨gu, L.length * 4, none⟩ = some (.bool x1) ∧ w.cell? ⟨gu, L.length * 4 + 1, none⟩ = some (.int .i64 x2) ∧ w.cell? ⟨gu, L.length * 4 + 2, none⟩ = some (.int .i64 x3) ∧
      ∀ y : Int, (-9223372036854775808 ≤ y ∧ y ≤ 9223372036854775807) → OwnO (w.setCell ⟨gu, L.length * 4 + 2, none⟩ (.int .i64 y)) base u (L ++ [(⟨x1, x2, y, x4⟩, D, e)]) := by
  obtain ⟨⟨hwf, hlen, hor⟩, hall⟩ := h
  rcases hor with ⟨rfl, hn⟩ | ⟨gu, cu, cs, rfl, hb, hh, hnc, hm, hcs, ht⟩
  · simp at hn
  · have hn1 : (L ++ [((⟨x1, x2, x3, x4⟩ : O), D, e)]).length = L.length + 1 := by simp
    rw [hn1] at ht hnc ⊢
    have hrw : rows opv (L ++ [((⟨x1, x2, x3, x4⟩ : O), D, e)]) = rows opv L ++ [.bool x1, .int .i64 x2, .int .i64 x3, .slice D x4.length e] := by rw [rows_append, rows_one]; rfl
    rw [hrw] at ht
    have hrl : (rows opv L).length = L.length * 4 := rows_len hwf.left
    have hB : Blk w gu 40 cs := hh
    have hcell : ∀ j, j < 4 → w.cell? ⟨gu, L.length * 4 + j, none⟩ = [Value.bool x1, .int .i64 x2, .int .i64 x3, .slice D x4.length e][j]? := by
      intro j hj
      rw [Blk.cell hB]
      have h1 : (cs.toList.take ((L.length + 1) * 4))[L.length * 4 + j]? = cs[L.length * 4 + j]? := by
        rw [List.getElem?_take, if_pos (by omega), Array.getElem?_toList]
      rw [← h1, ht, List.getElem?_append_right (by omega), hrl]
      congr 1
      omega
    refine ⟨gu, cu, cs, rfl, hb, hnc, by simpa [maxLen] using hm, hB, hcell 0 (by omega), hcell 1 (by omega), hcell 2 (by omega), fun y hy => ?_⟩
    have hB2 := Blk.set_ hB (L.length * 4 + 2) (.int .i64 y)
    have hne : ∀ g, some gu = some g → ∃ t cs', Blk w g t cs' ∧ 5 ≠ t := fun g hg => by injection hg with hg; subst hg; exact ⟨_, _, hB, op_ne⟩
    refine ⟨⟨?_, ?_, .inr ⟨gu, cu, _, ?_, hb, hB2, ?_, hm, by simpa using hcs, ?_⟩⟩, fun x hx => ?_⟩
    · exact hwf.left.append (RWf.one (opv_len _) (opv_one _))
    · rw [rows_append, rows_one, List.length_append, hrl, List.length_append, opv_len, Nat.add_mul]
      rfl
    · rw [List.length_append]
      rfl
    · rw [List.length_append]
      exact hnc
    · rw [rows_append, rows_one, List.length_append, Array.toList_setIfInBounds, List.take_set]
      show (List.take ((L.length + 1) * 4) cs.toList).set _ _ = _
      rw [ht, set_row _ _ _ _ (by omega)]
      rfl
    · rcases List.mem_append.1 hx with hx | hx
      · exact (hall x (List.mem_append_left _ hx)).row (only_set w gu _ _) hne
      · rw [List.mem_singleton] at hx
        subst hx
        obtain ⟨q1, q2, q3, q4, q5⟩ := (hall (⟨x1, x2, x3, x4⟩, D, e) (List.mem_append_right _ (List.mem_singleton.2 rfl))).row (only_set w gu _ _) hne
        exact ⟨q1, hy, q3, q4, q5⟩
theorem run_ix {P : Program} {E : TypeId} {i : TypeInfo} {sz by' : Nat} (t : TypeId) (ht : P.underlying t = some (.slice E)) (hi : IsRec P E i sz by') (hsz : 0 < sz) (g k n c : Nat) (hk : k < n) (w : World) : (Instr.indexAt t (.slice (some ⟨g, 0, none⟩) n c) (.int .i64 (k : Int))).run P w = .ok (.pointer (some ⟨g, k * sz, none⟩)) w := by
  rw [run_indexAt_slice w t ⟨g, 0, none⟩ n c .i64 (k : Int) (by rw [elem_of ht]; exact ht), elem_of ht]
  have hs : (sizeOf E).run P w = .ok sz w := by simp [sizeOf, typeInfo, hi.1, hi.2.2.1]
  rw [if_pos (by omega), hs]
  simp only [Result.andThen_ok, Int.toNat_natCast]
  rw [add_lit_, Nat.zero_add]
/-- numbers in operations are small -/
def Small (L : List O) (m : Nat) : Prop := ∀ x ∈ L, 0 ≤ x.pos ∧ x.pos ≤ 33554432 ∧ 0 ≤ x.n ∧ x.n ≤ (m : Int)
theorem Small.mono {L : List O} {m m' : Nat} (h : Small L m) (hm : m ≤ m') : Small L m' := fun x hx => by have := h x hx; omega
theorem Small.app {L M : List O} {m : Nat} (h : Small L m) (h2 : Small M m) : Small (L ++ M) m := fun x hx => by
  rcases List.mem_append.1 hx with hx | hx
  · exact h x hx
  · exact h2 x hx
theorem Small.whole (b : List UInt8) (m : Nat) : Small (Tm.whole b) m := fun x hx => by
  unfold Tm.whole at hx
  split at hx
  · simp at hx
  · rw [List.mem_singleton] at hx
    subst hx
    simp [lit]
theorem ops_app (L M : List Ow) : ops (L ++ M) = ops L ++ ops M := by simp [ops]
theorem getLast_ops (L : List Ow) (x : Ow) : (ops (L ++ [x])).getLast? = some x.1 := by simp [ops]
theorem put1_joins (z : Nat) (b : List UInt8) (L : List Ow) (x1 : Bool) (x2 x3 : Int) (x4 : List UInt8) (D : Option Addr) (e : Nat) (frm i : Nat) (a : Int) (h : joins (ops (L ++ [(⟨x1, x2, x3, x4⟩, D, e)])) frm i a = true) : put1 z b (ops (L ++ [(⟨x1, x2, x3, x4⟩, D, e)])) frm i a = ops (L ++ [(⟨x1, x2, x3 + z, x4⟩, D, e)]) := by
  unfold put1
  rw [if_pos h, grow_eq _ _ z (getLast_ops L _)]
  simp [ops]
theorem put1_new (z : Nat) (b : List UInt8) (out : List O) (frm i : Nat) (a : Int) (h : joins out frm i a = false) : put1 z b out frm i a = out ++ whole (cut b frm i) ++ [cp a z] := if_neg (by rw [h]; simp)
theorem joins_ne (out : List O) (frm i : Nat) (a : Int) (h : frm ≠ i) : joins out frm i a = false := by unfold joins; rw [decide_eq_false h, Bool.false_and]
theorem joins_nil (frm i : Nat) (a : Int) : joins (ops []) frm i a = false := by simp [joins, ops]
theorem joins_last (L : List Ow) (x1 : Bool) (x2 x3 : Int) (x4 : List UInt8) (D : Option Addr) (e : Nat) (i : Nat) (a : Int) : joins (ops (L ++ [(⟨x1, x2, x3, x4⟩, D, e)])) i i a = (x1 && decide (x2 + x3 = a)) := by
  unfold joins
  rw [getLast_ops]
  simp

section
variable {w : World} {base g : Nat} {A : Option Addr} {n c frm : Nat} {L : List Ow}
/-- behind a literal: the copy itself -/
theorem app_copy {w3 w4 : World} {base g i n c : Nat} {A : Option Addr} {u v : Value} {L : List Ow} {a : Int} {z : Nat} (hB : Blk w3 g 64 #[.slice A n c, .int .i64 (i : Int), u]) (ho : OwnO w3 base u L) (ha : 0 ≤ a ∧ a ≤ 33554432) (hz : z ≤ 1000000)
    (h1 : OwnRow opv 4 w4 base 40 v (L ++ [(cp a z, none, 0)])) (hg : (w3.alloc (.cells #[.bool true, .int .i64 a, .int .i64 (z : Int), .slice none 0 0] 40)).grownBy w4 u.ownBlock) :
    OwnO w4 base v (L ++ [(cp a z, none, 0)]) ∧ Blk w4 g 64 #[.slice A n c, .int .i64 (i : Int), u] := by
  refine ⟨(ho.alloc _).app h1 hg (fun x hx => ?_), (hB.alloc _).grown hg (fun e => ownO_ne ho hB fop_ne e.symm)⟩
  rw [List.mem_singleton] at hx
  subst hx
  exact ⟨by simp only [cp]; omega, by simp only [cp]; omega, by simp [cp], by show (0 : Nat) ≤ _; omega, RT.nil⟩
end
theorem lit_op1 (w : World) (a : Int) (z : Nat) : ReadRow opv 4 (w.alloc (.cells #[.bool true, .int .i64 a, .int .i64 (z : Int), .slice none 0 0] 40)) (w.heap.size + 1) (some ⟨w.heap.size, 0, none⟩) [((cp a z : O), none, 0)] :=
  ReadRow.lit1 (f := opv) (sz := 4) w 40 #[.bool true, .int .i64 a, .int .i64 (z : Int), .slice none 0 0] ((cp a z : O), none, 0) rfl rfl (opv_one _)
theorem own_sl {w : World} {base : Nat} {v : Value} {L : List Ow} (h : OwnO w base v L) : ∃ A n c, v = .slice A n c := by
  obtain ⟨A, c, e, -⟩ := h.opens
  exact ⟨A, _, c, e⟩
set_option maxRecDepth 100000 in
set_option maxHeartbeats 8000000 in
theorem copied_a {w : World} {base g : Nat} {A : Option Addr} {n c frm : Nat} {L : List Ow} (h : IsF w base g A n c frm L) (b : List UInt8) (hn : n = b.length) (hc : n ≤ c) (hcm : c ≤ 9223372036854775807) (hr : ReadB w base A b) (hbl : n ≤ 1000000) (i z : Nat) (a : Int) (h1 : frm ≤ i) (h2 : i + z ≤ n) (hL : L.length ≤ 999990) (ha : 0 ≤ a ∧ a ≤ 33554432) (hs : Small (ops L) frm) (hne : frm ≠ i) :
    Calls Tryd.prog 35 #[.pointer (some ⟨g, 0, none⟩), .int .i64 (i : Int), .int .i64 a, .int .i64 (z : Int)] w fun e w' => e = .returned (.tuple #[]) ∧ ∃ R, IsF w' base g A n c (i + z) R ∧ ops R = put1 z b (ops L) frm i a ∧ Below base w w' := by
  obtain ⟨iO, hiO⟩ := isOp
  have Hi := Lib.hid hiO
  have hlit := literal_calls (w := w.drew) h b hn hc hcm hr (by omega) i h1 (by omega) (by omega)
  obtain ⟨hbg, u, hB, ho⟩ := h
  have Hlit := Lib.hid hlit
  have HB := Lib.hid hB
  have HO := Lib.hid ho
  have Hbg := Lib.hid hbg
  have Hn := Lib.hid hn
  have HL := Lib.hid hL
  have Hs := Lib.hid hs
  have Hh1 := Lib.hid h1
  have hd0 : w.cell? ⟨g, 1, none⟩ = some (.int .i64 (frm : Int)) := by rw [Blk.cell hB]; rfl
  have hd2 : w.cell? ⟨g, 2, none⟩ = some u := by rw [Blk.cell hB]; rfl
  have Hd0 := Lib.hid hd0
  have Hd2 := Lib.hid hd2
  clear hlit hB ho hn hL hs hr hiO hbg h1 hd0
  obtain ⟨A0, n0, c0, hu⟩ := own_sl HO.out
  subst hu
  have Hput := Lib.hid (put1_new z b (ops L) frm i a (joins_ne _ _ _ _ hne))
  have t1 : ((frm : Int) == (i : Int)) = false := by rw [beq_eq_false_iff_ne]; omega
  have t2 : decide ((frm : Int) = (i : Int)) = false := decide_eq_false (by omega)
  have t3 : ¬ (frm : Int) = (i : Int) := by omega
  go_enter Tryd.func35, Tryd.ntmps35
  go_wp2_with fail
  refine CanT.region (fun w' => w.drew = w') 1000 (.op 0 2 (.op 1 2 (.op 2 2 (.op 3 1 (.op 4 2 (.op 5 2 (.op 6 2 (.op 7 2 (.op 8 2 (.op 9 2 (.op 10 2 (.op 11 2 (.op 12 2 (.op 13 2 (.op 14 1 (.op 15 2 (.op 16 2 (.op 17 2 (.op 18 1 (.op 19 2 (.op 20 2 (.op 21 2 (.op 22 2 (.op 23 2 (.op 24 1 (.op 25 2 (.op 26 2 (.op 27 2 (.op 28 1 (.op 29 2 (.op 30 2 (.op 31 2 (.op 32 1 (.op 33 2 (.op 34 2 (.op 35 2 (.op 36 1 (.op 37 2 (.op 38 2 (.op 39 2 (.op 40 2 (.nil)))))))))))))))))))))))))))))))))))))))))) (by kernel_rfl) (by kernel_rfl) rfl ?_
  have Hd0 : Hid (w.drew.cell? ⟨g, 1, none⟩ = some (.int .i64 (frm : Int))) := Hd0
  have Hd2 : Hid (w.drew.cell? ⟨g, 2, none⟩ = some (.slice A0 n0 c0)) := Hd2
  have HBW : Hid (Blk w.drew g 64 #[.slice A n c, .int .i64 (frm : Int), (.slice A0 n0 c0)]) := HB
  have HOW : Hid (OwnO w.drew base (.slice A0 n0 c0) L) := HO
  have HDW : Hid (Below base w w.drew) := Lib.hid (Below.refl _ _).drew
  generalize w.drew = W at *
  repeat (first | (refine CanT.skip rfl ?_ (fun K hK => ?_); (focus (go_simp; done)); go_simp; refine hK _ ?_; clear hK K) | (refine CanT.pur rfl ?_ ?_; (focus (go_simp; done)); refine ⟨?_, ?_, ?_⟩; rotate_left; (focus (intro w'; go_simp; rfl)); (focus (intro K hK; go_simp; refine hK _ ?_; clear hK K))) | (refine CanT.cellG rfl ?_ (.int .i64 (frm : Int)) (.int .i64 (frm : Int)) ⟨g, 1, none⟩ (fun w' e => by rw [← e]; exact Hd0.out) ?_ (fun K hK => ?_); (focus (go_simp; done)); (focus (intro w' hc'; go_simp; (try rfl))); go_simp; refine hK _ ?_; clear hK K))
  refine CanT.done ?_
  go_wp2_with fail
  refine Calls.mono Hlit.out ?_
  rintro e3 w3 ⟨rfl, M, ⟨-, u3, hB3, ho3⟩, hM3, hb3⟩
  have HB3 := Lib.hid hB3
  have HO3 := Lib.hid ho3
  have HM3 := Lib.hid hM3
  have HD3 := Lib.hid (HDW.out.trans hb3)
  have k0 : w3.cell? ⟨g, 2, none⟩ = some u3 := by rw [Blk.cell hB3]; rfl
  have k1 : ∀ o, (w3.alloc o).cell? ⟨g, 2, none⟩ = some u3 := fun o => by rw [Blk.cell (hB3.alloc o)]; rfl
  have hml : M.length ≤ 1 := by rw [← ops_len, hM3]; exact whole_len _
  have Hml := Lib.hid hml
  have Hs3 : Hid (base ≤ w3.heap.size) := Lib.hid (Nat.le_trans Hbg.out (Nat.le_of_lt hB3.lt))
  clear hB3 ho3 hM3 hb3 hml
  go_wp2_with (first
    | (refine wpList_bslice _ rfl 31 40 1 _ rfl Tryd.underlying31 iO 4 48 Hi.out (by omega) (by omega) [(0, .agg #[.bool true, .int .i64 a, .int .i64 (z : Int), .slice none 0 0])] rfl [.bool true, .int .i64 a, .int .i64 (z : Int), .slice none 0 0] (fun Z hZ => fill_one 4 (.agg #[.bool true, .int .i64 a, .int .i64 (z : Int), .slice none 0 0]) rfl Z hZ) ?_)
    | (at_builtin; go_loud (refine wpList_appR _ rfl (.tmp 75) (.tmp 79) 31 rfl base 40 iO 48 Tryd.underlying31 Hi.out (by omega) u3 (L ++ M) rfl (HO3.out.alloc _).1 (w3.heap.size + 1) (some ⟨w3.heap.size, 0, none⟩) 1 1 [(cp a z, none, 0)] rfl rfl (lit_op1 w3 a z) (by have := HL.out; have := Hml.out; simp; omega) (by have := HL.out; have := Hml.out; simp; omega) (Nat.le_trans Hs3.out (by simp)) ?_); intro v4 w4 ho4 hg4 _ hb4; obtain ⟨q1, q2⟩ := app_copy HB3.out HO3.out ha (by omega) ho4 hg4; obtain ⟨A4, n4, c4, hv4⟩ := own_sl q1; subst hv4; have k4 : w4.cell? ⟨g, 2, none⟩ = some u3 := (by rw [Blk.cell q2]; rfl); have k5 : w4.cell? ⟨g, 1, none⟩ = some (.int .i64 (i : Int)) := (by rw [Blk.cell q2]; rfl); have kf := Blk.frozen q2; have Q1 := Lib.hid q1; have Q2 := Lib.hid q2; have HD4 := Lib.hid ((HD3.out.alloc Hs3.out _).trans hb4); clear ho4 hg4 hb4 q1 q2))
  refine bodyPost_end (results_none rfl _ _ _) rfl ?_
  have R1 := Blk.set_ Q2.out 2 (.slice A4 n4 c4)
  have R2 := ownO_far (i := 2) (x := .slice A4 n4 c4) Q1.out Q2.out fop_ne fdr_ne
  exact ⟨rfl, _, ⟨Hbg.out, _, Blk.set_ R1 1 (.int .i64 ((i : Int) + (z : Int))), ownO_far (i := 1) (x := .int .i64 ((i : Int) + (z : Int))) R2 R1 fop_ne fdr_ne⟩, by rw [ops_app, ops_app, HM3.out, Hput.out]; rfl, (HD4.out.setCell (p := ⟨g, 2, none⟩) Hbg.out _).setCell (p := ⟨g, 1, none⟩) Hbg.out _⟩
set_option maxRecDepth 100000 in
set_option maxHeartbeats 8000000 in
theorem copied_b {w : World} {base g : Nat} {A : Option Addr} {n c frm : Nat} {L : List Ow} (h : IsF w base g A n c frm L) (b : List UInt8) (hn : n = b.length) (hc : n ≤ c) (hcm : c ≤ 9223372036854775807) (hr : ReadB w base A b) (hbl : n ≤ 1000000) (i z : Nat) (a : Int) (h1 : frm ≤ i) (h2 : i + z ≤ n) (hL : L.length ≤ 999990) (ha : 0 ≤ a ∧ a ≤ 33554432) (hs : Small (ops L) frm) (hne : i = frm) (h0 : L = []) :
    Calls Tryd.prog 35 #[.pointer (some ⟨g, 0, none⟩), .int .i64 (i : Int), .int .i64 a, .int .i64 (z : Int)] w fun e w' => e = .returned (.tuple #[]) ∧ ∃ R, IsF w' base g A n c (i + z) R ∧ ops R = put1 z b (ops L) frm i a ∧ Below base w w' := by
  subst hne
  obtain ⟨iO, hiO⟩ := isOp
  have Hi := Lib.hid hiO
  have hlit := literal_calls (w := w.drew) h b hn hc hcm hr (by omega) i h1 (by omega) (by omega)
  obtain ⟨hbg, u, hB, ho⟩ := h
  have Hlit := Lib.hid hlit
  have HB := Lib.hid hB
  have HO := Lib.hid ho
  have Hbg := Lib.hid hbg
  have Hn := Lib.hid hn
  have HL := Lib.hid hL
  have Hs := Lib.hid hs
  have Hh1 := Lib.hid h1
  have hd0 : w.cell? ⟨g, 1, none⟩ = some (.int .i64 (i : Int)) := by rw [Blk.cell hB]; rfl
  have hd2 : w.cell? ⟨g, 2, none⟩ = some u := by rw [Blk.cell hB]; rfl
  have Hd0 := Lib.hid hd0
  have Hd2 := Lib.hid hd2
  clear hlit hB ho hn hL hs hr hiO hbg h1 hd0
  obtain ⟨A0, c0, hu, -⟩ := HO.out.opens
  have hl0 : L.length = 0 := by rw [h0]; rfl
  rw [hl0] at hu
  subst hu
  have Hput := Lib.hid (put1_new z b (ops L) i i a (by rw [h0]; exact joins_nil _ _ _))
  clear hl0 h0
  go_enter Tryd.func35, Tryd.ntmps35
  go_wp2_with fail
  refine CanT.region (fun w' => w.drew = w') 1000 (.op 0 2 (.op 1 2 (.op 2 2 (.op 3 1 (.op 4 2 (.op 5 2 (.op 6 2 (.op 7 2 (.op 8 2 (.op 9 2 (.op 10 2 (.op 11 2 (.op 12 2 (.op 13 2 (.op 14 1 (.op 15 2 (.op 16 2 (.op 17 2 (.op 18 1 (.op 19 2 (.op 20 2 (.op 21 2 (.op 22 2 (.op 23 2 (.op 24 1 (.op 25 2 (.op 26 2 (.op 27 2 (.op 28 1 (.op 29 2 (.op 30 2 (.op 31 2 (.op 32 1 (.op 33 2 (.op 34 2 (.op 35 2 (.op 36 1 (.op 37 2 (.op 38 2 (.op 39 2 (.op 40 2 (.nil)))))))))))))))))))))))))))))))))))))))))) (by kernel_rfl) (by kernel_rfl) rfl ?_
  have Hd0 : Hid (w.drew.cell? ⟨g, 1, none⟩ = some (.int .i64 (i : Int))) := Hd0
  have Hd2 : Hid (w.drew.cell? ⟨g, 2, none⟩ = some (.slice A0 0 c0)) := Hd2
  have HBW : Hid (Blk w.drew g 64 #[.slice A n c, .int .i64 (i : Int), (.slice A0 0 c0)]) := HB
  have HOW : Hid (OwnO w.drew base (.slice A0 0 c0) L) := HO
  have HDW : Hid (Below base w w.drew) := Lib.hid (Below.refl _ _).drew
  generalize w.drew = W at *
  repeat (first | (refine CanT.skip rfl ?_ (fun K hK => ?_); (focus (go_simp; done)); go_simp; refine hK _ ?_; clear hK K) | (refine CanT.pur rfl ?_ ?_; (focus (go_simp; done)); refine ⟨?_, ?_, ?_⟩; rotate_left; (focus (intro w'; go_simp; rfl)); (focus (intro K hK; go_simp; refine hK _ ?_; clear hK K))) | (refine CanT.cellG rfl ?_ (.int .i64 (i : Int)) (.int .i64 (i : Int)) ⟨g, 1, none⟩ (fun w' e => by rw [← e]; exact Hd0.out) ?_ (fun K hK => ?_); (focus (go_simp; done)); (focus (intro w' hc'; go_simp; (try rfl))); go_simp; refine hK _ ?_; clear hK K))
  refine CanT.done ?_
  go_wp2_with fail
  refine Calls.mono Hlit.out ?_
  rintro e3 w3 ⟨rfl, M, ⟨-, u3, hB3, ho3⟩, hM3, hb3⟩
  have HB3 := Lib.hid hB3
  have HO3 := Lib.hid ho3
  have HM3 := Lib.hid hM3
  have HD3 := Lib.hid (HDW.out.trans hb3)
  have k0 : w3.cell? ⟨g, 2, none⟩ = some u3 := by rw [Blk.cell hB3]; rfl
  have k1 : ∀ o, (w3.alloc o).cell? ⟨g, 2, none⟩ = some u3 := fun o => by rw [Blk.cell (hB3.alloc o)]; rfl
  have hml : M.length ≤ 1 := by rw [← ops_len, hM3]; exact whole_len _
  have Hml := Lib.hid hml
  have Hs3 : Hid (base ≤ w3.heap.size) := Lib.hid (Nat.le_trans Hbg.out (Nat.le_of_lt hB3.lt))
  clear hB3 ho3 hM3 hb3 hml
  go_wp2_with (first
    | (refine wpList_bslice _ rfl 31 40 1 _ rfl Tryd.underlying31 iO 4 48 Hi.out (by omega) (by omega) [(0, .agg #[.bool true, .int .i64 a, .int .i64 (z : Int), .slice none 0 0])] rfl [.bool true, .int .i64 a, .int .i64 (z : Int), .slice none 0 0] (fun Z hZ => fill_one 4 (.agg #[.bool true, .int .i64 a, .int .i64 (z : Int), .slice none 0 0]) rfl Z hZ) ?_)
    | (at_builtin; go_loud (refine wpList_appR _ rfl (.tmp 75) (.tmp 79) 31 rfl base 40 iO 48 Tryd.underlying31 Hi.out (by omega) u3 (L ++ M) rfl (HO3.out.alloc _).1 (w3.heap.size + 1) (some ⟨w3.heap.size, 0, none⟩) 1 1 [(cp a z, none, 0)] rfl rfl (lit_op1 w3 a z) (by have := HL.out; have := Hml.out; simp; omega) (by have := HL.out; have := Hml.out; simp; omega) (Nat.le_trans Hs3.out (by simp)) ?_); intro v4 w4 ho4 hg4 _ hb4; obtain ⟨q1, q2⟩ := app_copy HB3.out HO3.out ha (by omega) ho4 hg4; obtain ⟨A4, n4, c4, hv4⟩ := own_sl q1; subst hv4; have k4 : w4.cell? ⟨g, 2, none⟩ = some u3 := (by rw [Blk.cell q2]; rfl); have k5 : w4.cell? ⟨g, 1, none⟩ = some (.int .i64 (i : Int)) := (by rw [Blk.cell q2]; rfl); have kf := Blk.frozen q2; have Q1 := Lib.hid q1; have Q2 := Lib.hid q2; have HD4 := Lib.hid ((HD3.out.alloc Hs3.out _).trans hb4); clear ho4 hg4 hb4 q1 q2))
  refine bodyPost_end (results_none rfl _ _ _) rfl ?_
  have R1 := Blk.set_ Q2.out 2 (.slice A4 n4 c4)
  have R2 := ownO_far (i := 2) (x := .slice A4 n4 c4) Q1.out Q2.out fop_ne fdr_ne
  exact ⟨rfl, _, ⟨Hbg.out, _, Blk.set_ R1 1 (.int .i64 ((i : Int) + (z : Int))), ownO_far (i := 1) (x := .int .i64 ((i : Int) + (z : Int))) R2 R1 fop_ne fdr_ne⟩, by rw [ops_app, ops_app, HM3.out, Hput.out]; rfl, (HD4.out.setCell (p := ⟨g, 2, none⟩) Hbg.out _).setCell (p := ⟨g, 1, none⟩) Hbg.out _⟩
set_option maxRecDepth 100000 in
set_option maxHeartbeats 8000000 in
theorem copied_c {w : World} {base g : Nat} {A : Option Addr} {n c frm : Nat} {L : List Ow} (h : IsF w base g A n c frm L) (b : List UInt8) (hn : n = b.length) (hc : n ≤ c) (hcm : c ≤ 9223372036854775807) (hr : ReadB w base A b) (hbl : n ≤ 1000000) (i z : Nat) (a : Int) (h1 : frm ≤ i) (h2 : i + z ≤ n) (hL : L.length ≤ 999990) (ha : 0 ≤ a ∧ a ≤ 33554432) (hs : Small (ops L) frm) (hne : i = frm) (L0 : List Ow) (x1 : Bool) (x2 x3 : Int) (x4 : List UInt8) (D : Option Addr) (e : Nat) (hLx : L = L0 ++ [(⟨x1, x2, x3, x4⟩, D, e)]) (hx : x1 = false) :
    Calls Tryd.prog 35 #[.pointer (some ⟨g, 0, none⟩), .int .i64 (i : Int), .int .i64 a, .int .i64 (z : Int)] w fun e w' => e = .returned (.tuple #[]) ∧ ∃ R, IsF w' base g A n c (i + z) R ∧ ops R = put1 z b (ops L) frm i a ∧ Below base w w' := by
  subst hne
  obtain ⟨iO, hiO⟩ := isOp
  have Hi := Lib.hid hiO
  have hlit := literal_calls (w := w.drew) h b hn hc hcm hr (by omega) i h1 (by omega) (by omega)
  obtain ⟨hbg, u, hB, ho⟩ := h
  have Hlit := Lib.hid hlit
  have HB := Lib.hid hB
  have HO := Lib.hid ho
  have Hbg := Lib.hid hbg
  have Hn := Lib.hid hn
  have HL := Lib.hid hL
  have Hs := Lib.hid hs
  have Hh1 := Lib.hid h1
  have hd0 : w.cell? ⟨g, 1, none⟩ = some (.int .i64 (i : Int)) := by rw [Blk.cell hB]; rfl
  have hd2 : w.cell? ⟨g, 2, none⟩ = some u := by rw [Blk.cell hB]; rfl
  have Hd0 := Lib.hid hd0
  have Hd2 := Lib.hid hd2
  clear hlit hB ho hn hL hs hr hiO hbg h1 hd0
  have ho2 := HO.out
  rw [hLx] at ho2
  obtain ⟨gu, cu, cs, hu, hgu, hcu1, hcu2, hbu, hc0, hc1, hc2, hset⟩ := own_last ho2
  subst hu
  have hsm := Hs.out (⟨x1, x2, x3, x4⟩ : O) (by rw [hLx, ops_app]; exact List.mem_append_right _ (List.mem_singleton.2 rfl))
  have hLl : L0.length ≤ 999990 := by have := HL.out; rw [hLx, List.length_append] at this; omega
  obtain ⟨k, hk⟩ : ∃ k, k = L0.length := ⟨_, rfl⟩
  rw [← hk] at hc0 hc1 hc2 hset hcu1 hLl HO HB Hd2 hd2
  have Hc0 := Lib.hid hc0
  have Hc1 := Lib.hid hc1
  have Hc2 := Lib.hid hc2
  have Hset := Lib.hid hset
  have Hbu := Lib.hid hbu
  have hix := fun w' => run_ix (P := Tryd.prog) 31 Tryd.underlying31 Hi.out (by omega) gu k (k + 1) cu (by omega) w'
  have hw3 : IntKind.i64.wrap (k : Int) = (k : Int) := by rw [IntKind.wrap_i64]; omega
  obtain ⟨e1, e2, e3, e4⟩ := hsm
  simp only at e1 e2 e3 e4
  have hw4 : IntKind.i64.wrap (x2 + x3) = x2 + x3 := by rw [IntKind.wrap_i64]; omega
  have Hjl := Lib.hid (joins_last L0 x1 x2 x3 x4 D e i a)
  have HLx := Lib.hid hLx
  have Hk := Lib.hid hk
  clear hc0 hc1 hc2 hset hbu ho2 hLx hk
  subst hx
  have Hput := Lib.hid (put1_new z b (ops L) i i a (by rw [HLx.out, Hjl.out]; rfl))
  go_enter Tryd.func35, Tryd.ntmps35
  go_wp2_with fail
  refine CanT.region (fun w' => w.drew = w') 1000 (.op 0 2 (.op 1 2 (.op 2 2 (.op 3 1 (.op 4 2 (.op 5 2 (.op 6 2 (.op 7 2 (.op 8 2 (.op 9 2 (.op 10 2 (.op 11 2 (.op 12 2 (.op 13 2 (.op 14 1 (.op 15 2 (.op 16 2 (.op 17 2 (.op 18 1 (.op 19 2 (.op 20 2 (.op 21 2 (.op 22 2 (.op 23 2 (.op 24 1 (.op 25 2 (.op 26 2 (.op 27 2 (.op 28 1 (.op 29 2 (.op 30 2 (.op 31 2 (.op 32 1 (.op 33 2 (.op 34 2 (.op 35 2 (.op 36 1 (.op 37 2 (.op 38 2 (.op 39 2 (.op 40 2 (.nil)))))))))))))))))))))))))))))))))))))))))) (by kernel_rfl) (by kernel_rfl) rfl ?_
  have Hd0 : Hid (w.drew.cell? ⟨g, 1, none⟩ = some (.int .i64 (i : Int))) := Hd0
  have Hd2 : Hid (w.drew.cell? ⟨g, 2, none⟩ = some (.slice (some ⟨gu, 0, none⟩) (k + 1) cu)) := Hd2
  have HBW : Hid (Blk w.drew g 64 #[.slice A n c, .int .i64 (i : Int), (.slice (some ⟨gu, 0, none⟩) (k + 1) cu)]) := HB
  have HOW : Hid (OwnO w.drew base (.slice (some ⟨gu, 0, none⟩) (k + 1) cu) L) := HO
  have HDW : Hid (Below base w w.drew) := Lib.hid (Below.refl _ _).drew
  have Hc0 : Hid (w.drew.cell? ⟨gu, k * 4, none⟩ = some (.bool false)) := Hc0
  have Hc1 : Hid (w.drew.cell? ⟨gu, k * 4 + 1, none⟩ = some (.int .i64 x2)) := Hc1
  have Hc2 : Hid (w.drew.cell? ⟨gu, k * 4 + 2, none⟩ = some (.int .i64 x3)) := Hc2
  have Hset : Hid (∀ y : Int, (-9223372036854775808 ≤ y ∧ y ≤ 9223372036854775807) → OwnO (w.drew.setCell ⟨gu, k * 4 + 2, none⟩ (.int .i64 y)) base (.slice (some ⟨gu, 0, none⟩) (k + 1) cu) (L0 ++ [(⟨false, x2, y, x4⟩, D, e)])) := Hset
  have Hbu : Hid (Blk w.drew gu 40 cs) := Hbu
  generalize w.drew = W at *
  repeat (first | (refine CanT.skip rfl ?_ (fun K hK => ?_); (focus (go_simp; done)); go_simp; refine hK _ ?_; clear hK K) | (refine CanT.pur rfl ?_ ?_; (focus (go_simp; done)); refine ⟨?_, ?_, ?_⟩; rotate_left; (focus (intro w'; go_simp; rfl)); (focus (intro K hK; go_simp; refine hK _ ?_; clear hK K))) | (refine CanT.cellG rfl ?_ (.int .i64 (i : Int)) (.int .i64 (i : Int)) ⟨g, 1, none⟩ (fun w' e => by rw [← e]; exact Hd0.out) ?_ (fun K hK => ?_); (focus (go_simp; done)); (focus (intro w' hc'; go_simp; (try rfl))); go_simp; refine hK _ ?_; clear hK K) | (refine CanT.cellG rfl ?_ (.slice (some ⟨gu, 0, none⟩) (k + 1) cu) (.slice (some ⟨gu, 0, none⟩) (k + 1) cu) ⟨g, 2, none⟩ (fun w' e => by rw [← e]; exact Hd2.out) ?_ (fun K hK => ?_); (focus (go_simp; done)); (focus (intro w' hc'; go_simp; (try rfl))); go_simp; refine hK _ ?_; clear hK K) | (refine CanT.cellG rfl ?_ (.bool false) (.bool false) ⟨gu, k * 4, none⟩ (fun w' e => by rw [← e]; exact Hc0.out) ?_ (fun K hK => ?_); (focus (go_simp; done)); (focus (intro w' hc'; go_simp; (try rfl))); go_simp; refine hK _ ?_; clear hK K) | (refine CanT.cellG rfl ?_ (.int .i64 x2) (.int .i64 x2) ⟨gu, k * 4 + 1, none⟩ (fun w' e => by rw [← e]; exact Hc1.out) ?_ (fun K hK => ?_); (focus (go_simp; done)); (focus (intro w' hc'; go_simp; (try rfl))); go_simp; refine hK _ ?_; clear hK K) | (refine CanT.cellG rfl ?_ (.int .i64 x3) (.int .i64 x3) ⟨gu, k * 4 + 2, none⟩ (fun w' e => by rw [← e]; exact Hc2.out) ?_ (fun K hK => ?_); (focus (go_simp; done)); (focus (intro w' hc'; go_simp; (try rfl))); go_simp; refine hK _ ?_; clear hK K))
  refine CanT.done ?_
  go_wp2_with fail
  refine Calls.mono Hlit.out ?_
  rintro e3 w3 ⟨rfl, M, ⟨-, u3, hB3, ho3⟩, hM3, hb3⟩
  have HB3 := Lib.hid hB3
  have HO3 := Lib.hid ho3
  have HM3 := Lib.hid hM3
  have HD3 := Lib.hid (HDW.out.trans hb3)
  have k0 : w3.cell? ⟨g, 2, none⟩ = some u3 := by rw [Blk.cell hB3]; rfl
  have k1 : ∀ o, (w3.alloc o).cell? ⟨g, 2, none⟩ = some u3 := fun o => by rw [Blk.cell (hB3.alloc o)]; rfl
  have hml : M.length ≤ 1 := by rw [← ops_len, hM3]; exact whole_len _
  have Hml := Lib.hid hml
  have Hs3 : Hid (base ≤ w3.heap.size) := Lib.hid (Nat.le_trans Hbg.out (Nat.le_of_lt hB3.lt))
  clear hB3 ho3 hM3 hb3 hml
  go_wp2_with (first
    | (refine wpList_bslice _ rfl 31 40 1 _ rfl Tryd.underlying31 iO 4 48 Hi.out (by omega) (by omega) [(0, .agg #[.bool true, .int .i64 a, .int .i64 (z : Int), .slice none 0 0])] rfl [.bool true, .int .i64 a, .int .i64 (z : Int), .slice none 0 0] (fun Z hZ => fill_one 4 (.agg #[.bool true, .int .i64 a, .int .i64 (z : Int), .slice none 0 0]) rfl Z hZ) ?_)
    | (at_builtin; go_loud (refine wpList_appR _ rfl (.tmp 75) (.tmp 79) 31 rfl base 40 iO 48 Tryd.underlying31 Hi.out (by omega) u3 (L ++ M) rfl (HO3.out.alloc _).1 (w3.heap.size + 1) (some ⟨w3.heap.size, 0, none⟩) 1 1 [(cp a z, none, 0)] rfl rfl (lit_op1 w3 a z) (by have := HL.out; have := Hml.out; simp; omega) (by have := HL.out; have := Hml.out; simp; omega) (Nat.le_trans Hs3.out (by simp)) ?_); intro v4 w4 ho4 hg4 _ hb4; obtain ⟨q1, q2⟩ := app_copy HB3.out HO3.out ha (by omega) ho4 hg4; obtain ⟨A4, n4, c4, hv4⟩ := own_sl q1; subst hv4; have k4 : w4.cell? ⟨g, 2, none⟩ = some u3 := (by rw [Blk.cell q2]; rfl); have k5 : w4.cell? ⟨g, 1, none⟩ = some (.int .i64 (i : Int)) := (by rw [Blk.cell q2]; rfl); have kf := Blk.frozen q2; have Q1 := Lib.hid q1; have Q2 := Lib.hid q2; have HD4 := Lib.hid ((HD3.out.alloc Hs3.out _).trans hb4); clear ho4 hg4 hb4 q1 q2))
  refine bodyPost_end (results_none rfl _ _ _) rfl ?_
  have R1 := Blk.set_ Q2.out 2 (.slice A4 n4 c4)
  have R2 := ownO_far (i := 2) (x := .slice A4 n4 c4) Q1.out Q2.out fop_ne fdr_ne
  exact ⟨rfl, _, ⟨Hbg.out, _, Blk.set_ R1 1 (.int .i64 ((i : Int) + (z : Int))), ownO_far (i := 1) (x := .int .i64 ((i : Int) + (z : Int))) R2 R1 fop_ne fdr_ne⟩, by rw [ops_app, ops_app, HM3.out, Hput.out]; rfl, (HD4.out.setCell (p := ⟨g, 2, none⟩) Hbg.out _).setCell (p := ⟨g, 1, none⟩) Hbg.out _⟩
set_option maxRecDepth 100000 in
set_option maxHeartbeats 8000000 in
theorem copied_d {w : World} {base g : Nat} {A : Option Addr} {n c frm : Nat} {L : List Ow} (h : IsF w base g A n c frm L) (b : List UInt8) (hn : n = b.length) (hc : n ≤ c) (hcm : c ≤ 9223372036854775807) (hr : ReadB w base A b) (hbl : n ≤ 1000000) (i z : Nat) (a : Int) (h1 : frm ≤ i) (h2 : i + z ≤ n) (hL : L.length ≤ 999990) (ha : 0 ≤ a ∧ a ≤ 33554432) (hs : Small (ops L) frm) (hne : i = frm) (L0 : List Ow) (x1 : Bool) (x2 x3 : Int) (x4 : List UInt8) (D : Option Addr) (e : Nat) (hLx : L = L0 ++ [(⟨x1, x2, x3, x4⟩, D, e)]) (hx : x1 = true) (hx2 : x2 + x3 ≠ a) :
    Calls Tryd.prog 35 #[.pointer (some ⟨g, 0, none⟩), .int .i64 (i : Int), .int .i64 a, .int .i64 (z : Int)] w fun e w' => e = .returned (.tuple #[]) ∧ ∃ R, IsF w' base g A n c (i + z) R ∧ ops R = put1 z b (ops L) frm i a ∧ Below base w w' := by
  subst hne
  obtain ⟨iO, hiO⟩ := isOp
  have Hi := Lib.hid hiO
  have hlit := literal_calls (w := w.drew) h b hn hc hcm hr (by omega) i h1 (by omega) (by omega)
  obtain ⟨hbg, u, hB, ho⟩ := h
  have Hlit := Lib.hid hlit
  have HB := Lib.hid hB
  have HO := Lib.hid ho
  have Hbg := Lib.hid hbg
  have Hn := Lib.hid hn
  have HL := Lib.hid hL
  have Hs := Lib.hid hs
  have Hh1 := Lib.hid h1
  have hd0 : w.cell? ⟨g, 1, none⟩ = some (.int .i64 (i : Int)) := by rw [Blk.cell hB]; rfl
  have hd2 : w.cell? ⟨g, 2, none⟩ = some u := by rw [Blk.cell hB]; rfl
  have Hd0 := Lib.hid hd0
  have Hd2 := Lib.hid hd2
  clear hlit hB ho hn hL hs hr hiO hbg h1 hd0
  have ho2 := HO.out
  rw [hLx] at ho2
  obtain ⟨gu, cu, cs, hu, hgu, hcu1, hcu2, hbu, hc0, hc1, hc2, hset⟩ := own_last ho2
  subst hu
  have hsm := Hs.out (⟨x1, x2, x3, x4⟩ : O) (by rw [hLx, ops_app]; exact List.mem_append_right _ (List.mem_singleton.2 rfl))
  have hLl : L0.length ≤ 999990 := by have := HL.out; rw [hLx, List.length_append] at this; omega
  obtain ⟨k, hk⟩ : ∃ k, k = L0.length := ⟨_, rfl⟩
  rw [← hk] at hc0 hc1 hc2 hset hcu1 hLl HO HB Hd2 hd2
  have Hc0 := Lib.hid hc0
  have Hc1 := Lib.hid hc1
  have Hc2 := Lib.hid hc2
  have Hset := Lib.hid hset
  have Hbu := Lib.hid hbu
  have hix := fun w' => run_ix (P := Tryd.prog) 31 Tryd.underlying31 Hi.out (by omega) gu k (k + 1) cu (by omega) w'
  have hw3 : IntKind.i64.wrap (k : Int) = (k : Int) := by rw [IntKind.wrap_i64]; omega
  obtain ⟨e1, e2, e3, e4⟩ := hsm
  simp only at e1 e2 e3 e4
  have hw4 : IntKind.i64.wrap (x2 + x3) = x2 + x3 := by rw [IntKind.wrap_i64]; omega
  have Hjl := Lib.hid (joins_last L0 x1 x2 x3 x4 D e i a)
  have HLx := Lib.hid hLx
  have Hk := Lib.hid hk
  clear hc0 hc1 hc2 hset hbu ho2 hLx hk
  subst hx
  have Hput := Lib.hid (put1_new z b (ops L) i i a (by rw [HLx.out, Hjl.out]; simp [hx2]))
  have t1 : decide (x2 + x3 = a) = false := decide_eq_false hx2
  have t2 : (x2 + x3 == a) = false := by rw [beq_eq_false_iff_ne]; exact hx2
  go_enter Tryd.func35, Tryd.ntmps35
  go_wp2_with fail
  refine CanT.region (fun w' => w.drew = w') 1000 (.op 0 2 (.op 1 2 (.op 2 2 (.op 3 1 (.op 4 2 (.op 5 2 (.op 6 2 (.op 7 2 (.op 8 2 (.op 9 2 (.op 10 2 (.op 11 2 (.op 12 2 (.op 13 2 (.op 14 1 (.op 15 2 (.op 16 2 (.op 17 2 (.op 18 1 (.op 19 2 (.op 20 2 (.op 21 2 (.op 22 2 (.op 23 2 (.op 24 1 (.op 25 2 (.op 26 2 (.op 27 2 (.op 28 1 (.op 29 2 (.op 30 2 (.op 31 2 (.op 32 1 (.op 33 2 (.op 34 2 (.op 35 2 (.op 36 1 (.op 37 2 (.op 38 2 (.op 39 2 (.op 40 2 (.nil)))))))))))))))))))))))))))))))))))))))))) (by kernel_rfl) (by kernel_rfl) rfl ?_
  have Hd0 : Hid (w.drew.cell? ⟨g, 1, none⟩ = some (.int .i64 (i : Int))) := Hd0
  have Hd2 : Hid (w.drew.cell? ⟨g, 2, none⟩ = some (.slice (some ⟨gu, 0, none⟩) (k + 1) cu)) := Hd2
  have HBW : Hid (Blk w.drew g 64 #[.slice A n c, .int .i64 (i : Int), (.slice (some ⟨gu, 0, none⟩) (k + 1) cu)]) := HB
  have HOW : Hid (OwnO w.drew base (.slice (some ⟨gu, 0, none⟩) (k + 1) cu) L) := HO
  have HDW : Hid (Below base w w.drew) := Lib.hid (Below.refl _ _).drew
  have Hc0 : Hid (w.drew.cell? ⟨gu, k * 4, none⟩ = some (.bool true)) := Hc0
  have Hc1 : Hid (w.drew.cell? ⟨gu, k * 4 + 1, none⟩ = some (.int .i64 x2)) := Hc1
  have Hc2 : Hid (w.drew.cell? ⟨gu, k * 4 + 2, none⟩ = some (.int .i64 x3)) := Hc2
  have Hset : Hid (∀ y : Int, (-9223372036854775808 ≤ y ∧ y ≤ 9223372036854775807) → OwnO (w.drew.setCell ⟨gu, k * 4 + 2, none⟩ (.int .i64 y)) base (.slice (some ⟨gu, 0, none⟩) (k + 1) cu) (L0 ++ [(⟨true, x2, y, x4⟩, D, e)])) := Hset
  have Hbu : Hid (Blk w.drew gu 40 cs) := Hbu
  generalize w.drew = W at *
  repeat (first | (refine CanT.skip rfl ?_ (fun K hK => ?_); (focus (go_simp; done)); go_simp; refine hK _ ?_; clear hK K) | (refine CanT.pur rfl ?_ ?_; (focus (go_simp; done)); refine ⟨?_, ?_, ?_⟩; rotate_left; (focus (intro w'; go_simp; rfl)); (focus (intro K hK; go_simp; refine hK _ ?_; clear hK K))) | (refine CanT.cellG rfl ?_ (.int .i64 (i : Int)) (.int .i64 (i : Int)) ⟨g, 1, none⟩ (fun w' e => by rw [← e]; exact Hd0.out) ?_ (fun K hK => ?_); (focus (go_simp; done)); (focus (intro w' hc'; go_simp; (try rfl))); go_simp; refine hK _ ?_; clear hK K) | (refine CanT.cellG rfl ?_ (.slice (some ⟨gu, 0, none⟩) (k + 1) cu) (.slice (some ⟨gu, 0, none⟩) (k + 1) cu) ⟨g, 2, none⟩ (fun w' e => by rw [← e]; exact Hd2.out) ?_ (fun K hK => ?_); (focus (go_simp; done)); (focus (intro w' hc'; go_simp; (try rfl))); go_simp; refine hK _ ?_; clear hK K) | (refine CanT.cellG rfl ?_ (.bool true) (.bool true) ⟨gu, k * 4, none⟩ (fun w' e => by rw [← e]; exact Hc0.out) ?_ (fun K hK => ?_); (focus (go_simp; done)); (focus (intro w' hc'; go_simp; (try rfl))); go_simp; refine hK _ ?_; clear hK K) | (refine CanT.cellG rfl ?_ (.int .i64 x2) (.int .i64 x2) ⟨gu, k * 4 + 1, none⟩ (fun w' e => by rw [← e]; exact Hc1.out) ?_ (fun K hK => ?_); (focus (go_simp; done)); (focus (intro w' hc'; go_simp; (try rfl))); go_simp; refine hK _ ?_; clear hK K) | (refine CanT.cellG rfl ?_ (.int .i64 x3) (.int .i64 x3) ⟨gu, k * 4 + 2, none⟩ (fun w' e => by rw [← e]; exact Hc2.out) ?_ (fun K hK => ?_); (focus (go_simp; done)); (focus (intro w' hc'; go_simp; (try rfl))); go_simp; refine hK _ ?_; clear hK K))
  refine CanT.done ?_
  go_wp2_with fail
  refine Calls.mono Hlit.out ?_
  rintro e3 w3 ⟨rfl, M, ⟨-, u3, hB3, ho3⟩, hM3, hb3⟩
  have HB3 := Lib.hid hB3
  have HO3 := Lib.hid ho3
  have HM3 := Lib.hid hM3
  have HD3 := Lib.hid (HDW.out.trans hb3)
  have k0 : w3.cell? ⟨g, 2, none⟩ = some u3 := by rw [Blk.cell hB3]; rfl
  have k1 : ∀ o, (w3.alloc o).cell? ⟨g, 2, none⟩ = some u3 := fun o => by rw [Blk.cell (hB3.alloc o)]; rfl
  have hml : M.length ≤ 1 := by rw [← ops_len, hM3]; exact whole_len _
  have Hml := Lib.hid hml
  have Hs3 : Hid (base ≤ w3.heap.size) := Lib.hid (Nat.le_trans Hbg.out (Nat.le_of_lt hB3.lt))
  clear hB3 ho3 hM3 hb3 hml
  go_wp2_with (first
    | (refine wpList_bslice _ rfl 31 40 1 _ rfl Tryd.underlying31 iO 4 48 Hi.out (by omega) (by omega) [(0, .agg #[.bool true, .int .i64 a, .int .i64 (z : Int), .slice none 0 0])] rfl [.bool true, .int .i64 a, .int .i64 (z : Int), .slice none 0 0] (fun Z hZ => fill_one 4 (.agg #[.bool true, .int .i64 a, .int .i64 (z : Int), .slice none 0 0]) rfl Z hZ) ?_)
    | (at_builtin; go_loud (refine wpList_appR _ rfl (.tmp 75) (.tmp 79) 31 rfl base 40 iO 48 Tryd.underlying31 Hi.out (by omega) u3 (L ++ M) rfl (HO3.out.alloc _).1 (w3.heap.size + 1) (some ⟨w3.heap.size, 0, none⟩) 1 1 [(cp a z, none, 0)] rfl rfl (lit_op1 w3 a z) (by have := HL.out; have := Hml.out; simp; omega) (by have := HL.out; have := Hml.out; simp; omega) (Nat.le_trans Hs3.out (by simp)) ?_); intro v4 w4 ho4 hg4 _ hb4; obtain ⟨q1, q2⟩ := app_copy HB3.out HO3.out ha (by omega) ho4 hg4; obtain ⟨A4, n4, c4, hv4⟩ := own_sl q1; subst hv4; have k4 : w4.cell? ⟨g, 2, none⟩ = some u3 := (by rw [Blk.cell q2]; rfl); have k5 : w4.cell? ⟨g, 1, none⟩ = some (.int .i64 (i : Int)) := (by rw [Blk.cell q2]; rfl); have kf := Blk.frozen q2; have Q1 := Lib.hid q1; have Q2 := Lib.hid q2; have HD4 := Lib.hid ((HD3.out.alloc Hs3.out _).trans hb4); clear ho4 hg4 hb4 q1 q2))
  refine bodyPost_end (results_none rfl _ _ _) rfl ?_
  have R1 := Blk.set_ Q2.out 2 (.slice A4 n4 c4)
  have R2 := ownO_far (i := 2) (x := .slice A4 n4 c4) Q1.out Q2.out fop_ne fdr_ne
  exact ⟨rfl, _, ⟨Hbg.out, _, Blk.set_ R1 1 (.int .i64 ((i : Int) + (z : Int))), ownO_far (i := 1) (x := .int .i64 ((i : Int) + (z : Int))) R2 R1 fop_ne fdr_ne⟩, by rw [ops_app, ops_app, HM3.out, Hput.out]; rfl, (HD4.out.setCell (p := ⟨g, 2, none⟩) Hbg.out _).setCell (p := ⟨g, 1, none⟩) Hbg.out _⟩
set_option maxRecDepth 100000 in
set_option maxHeartbeats 8000000 in
theorem copied_e {w : World} {base g : Nat} {A : Option Addr} {n c frm : Nat} {L : List Ow} (h : IsF w base g A n c frm L) (b : List UInt8) (hn : n = b.length) (hc : n ≤ c) (hcm : c ≤ 9223372036854775807) (hr : ReadB w base A b) (hbl : n ≤ 1000000) (i z : Nat) (a : Int) (h1 : frm ≤ i) (h2 : i + z ≤ n) (hL : L.length ≤ 999990) (ha : 0 ≤ a ∧ a ≤ 33554432) (hs : Small (ops L) frm) (hne : i = frm) (L0 : List Ow) (x1 : Bool) (x2 x3 : Int) (x4 : List UInt8) (D : Option Addr) (e : Nat) (hLx : L = L0 ++ [(⟨x1, x2, x3, x4⟩, D, e)]) (hx : x1 = true) (hx2 : x2 + x3 = a) :
    Calls Tryd.prog 35 #[.pointer (some ⟨g, 0, none⟩), .int .i64 (i : Int), .int .i64 a, .int .i64 (z : Int)] w fun e w' => e = .returned (.tuple #[]) ∧ ∃ R, IsF w' base g A n c (i + z) R ∧ ops R = put1 z b (ops L) frm i a ∧ Below base w w' := by
  subst hne
  obtain ⟨iO, hiO⟩ := isOp
  have Hi := Lib.hid hiO
  have hlit := literal_calls (w := w.drew) h b hn hc hcm hr (by omega) i h1 (by omega) (by omega)
  obtain ⟨hbg, u, hB, ho⟩ := h
  have Hlit := Lib.hid hlit
  have HB := Lib.hid hB
  have HO := Lib.hid ho
  have Hbg := Lib.hid hbg
  have Hn := Lib.hid hn
  have HL := Lib.hid hL
  have Hs := Lib.hid hs
  have Hh1 := Lib.hid h1
  have hd0 : w.cell? ⟨g, 1, none⟩ = some (.int .i64 (i : Int)) := by rw [Blk.cell hB]; rfl
  have hd2 : w.cell? ⟨g, 2, none⟩ = some u := by rw [Blk.cell hB]; rfl
  have Hd0 := Lib.hid hd0
  have Hd2 := Lib.hid hd2
  clear hlit hB ho hn hL hs hr hiO hbg h1 hd0
  have ho2 := HO.out
  rw [hLx] at ho2
  obtain ⟨gu, cu, cs, hu, hgu, hcu1, hcu2, hbu, hc0, hc1, hc2, hset⟩ := own_last ho2
  subst hu
  have hsm := Hs.out (⟨x1, x2, x3, x4⟩ : O) (by rw [hLx, ops_app]; exact List.mem_append_right _ (List.mem_singleton.2 rfl))
  have hLl : L0.length ≤ 999990 := by have := HL.out; rw [hLx, List.length_append] at this; omega
  obtain ⟨k, hk⟩ : ∃ k, k = L0.length := ⟨_, rfl⟩
  rw [← hk] at hc0 hc1 hc2 hset hcu1 hLl HO HB Hd2 hd2
  have Hc0 := Lib.hid hc0
  have Hc1 := Lib.hid hc1
  have Hc2 := Lib.hid hc2
  have Hset := Lib.hid hset
  have Hbu := Lib.hid hbu
  have hix := fun w' => run_ix (P := Tryd.prog) 31 Tryd.underlying31 Hi.out (by omega) gu k (k + 1) cu (by omega) w'
  have hw3 : IntKind.i64.wrap (k : Int) = (k : Int) := by rw [IntKind.wrap_i64]; omega
  obtain ⟨e1, e2, e3, e4⟩ := hsm
  simp only at e1 e2 e3 e4
  have hw4 : IntKind.i64.wrap (x2 + x3) = x2 + x3 := by rw [IntKind.wrap_i64]; omega
  have Hjl := Lib.hid (joins_last L0 x1 x2 x3 x4 D e i a)
  have HLx := Lib.hid hLx
  have Hk := Lib.hid hk
  clear hc0 hc1 hc2 hset hbu ho2 hLx hk
  subst hx
  have Hput := Lib.hid (put1_joins z b L0 true x2 x3 x4 D e i i a (by rw [Hjl.out]; simp [hx2]))
  have Hx2 := Lib.hid hx2
  have t1 : decide (x2 + x3 = a) = true := decide_eq_true hx2
  have t2 : (x2 + x3 == a) = true := by rw [beq_iff_eq]; exact hx2
  clear hx2
  go_enter Tryd.func35, Tryd.ntmps35
  go_wp2_with fail
  refine CanT.region (fun w' => w.drew = w') 1000 (.op 0 2 (.op 1 2 (.op 2 2 (.op 3 1 (.op 4 2 (.op 5 2 (.op 6 2 (.op 7 2 (.op 8 2 (.op 9 2 (.op 10 2 (.op 11 2 (.op 12 2 (.op 13 2 (.op 14 1 (.op 15 2 (.op 16 2 (.op 17 2 (.op 18 1 (.op 19 2 (.op 20 2 (.op 21 2 (.op 22 2 (.op 23 2 (.op 24 1 (.op 25 2 (.op 26 2 (.op 27 2 (.op 28 1 (.op 29 2 (.op 30 2 (.op 31 2 (.op 32 1 (.op 33 2 (.op 34 2 (.op 35 2 (.op 36 1 (.op 37 2 (.op 38 2 (.op 39 2 (.op 40 2 (.nil)))))))))))))))))))))))))))))))))))))))))) (by kernel_rfl) (by kernel_rfl) rfl ?_
  have Hd0 : Hid (w.drew.cell? ⟨g, 1, none⟩ = some (.int .i64 (i : Int))) := Hd0
  have Hd2 : Hid (w.drew.cell? ⟨g, 2, none⟩ = some (.slice (some ⟨gu, 0, none⟩) (k + 1) cu)) := Hd2
  have HBW : Hid (Blk w.drew g 64 #[.slice A n c, .int .i64 (i : Int), (.slice (some ⟨gu, 0, none⟩) (k + 1) cu)]) := HB
  have HOW : Hid (OwnO w.drew base (.slice (some ⟨gu, 0, none⟩) (k + 1) cu) L) := HO
  have HDW : Hid (Below base w w.drew) := Lib.hid (Below.refl _ _).drew
  have Hc0 : Hid (w.drew.cell? ⟨gu, k * 4, none⟩ = some (.bool true)) := Hc0
  have Hc1 : Hid (w.drew.cell? ⟨gu, k * 4 + 1, none⟩ = some (.int .i64 x2)) := Hc1
  have Hc2 : Hid (w.drew.cell? ⟨gu, k * 4 + 2, none⟩ = some (.int .i64 x3)) := Hc2
  have Hset : Hid (∀ y : Int, (-9223372036854775808 ≤ y ∧ y ≤ 9223372036854775807) → OwnO (w.drew.setCell ⟨gu, k * 4 + 2, none⟩ (.int .i64 y)) base (.slice (some ⟨gu, 0, none⟩) (k + 1) cu) (L0 ++ [(⟨true, x2, y, x4⟩, D, e)])) := Hset
  have Hbu : Hid (Blk w.drew gu 40 cs) := Hbu
  generalize w.drew = W at *
  repeat (first | (refine CanT.skip rfl ?_ (fun K hK => ?_); (focus (go_simp; done)); go_simp; refine hK _ ?_; clear hK K) | (refine CanT.pur rfl ?_ ?_; (focus (go_simp; done)); refine ⟨?_, ?_, ?_⟩; rotate_left; (focus (intro w'; go_simp; rfl)); (focus (intro K hK; go_simp; refine hK _ ?_; clear hK K))) | (refine CanT.cellG rfl ?_ (.int .i64 (i : Int)) (.int .i64 (i : Int)) ⟨g, 1, none⟩ (fun w' e => by rw [← e]; exact Hd0.out) ?_ (fun K hK => ?_); (focus (go_simp; done)); (focus (intro w' hc'; go_simp; (try rfl))); go_simp; refine hK _ ?_; clear hK K) | (refine CanT.cellG rfl ?_ (.slice (some ⟨gu, 0, none⟩) (k + 1) cu) (.slice (some ⟨gu, 0, none⟩) (k + 1) cu) ⟨g, 2, none⟩ (fun w' e => by rw [← e]; exact Hd2.out) ?_ (fun K hK => ?_); (focus (go_simp; done)); (focus (intro w' hc'; go_simp; (try rfl))); go_simp; refine hK _ ?_; clear hK K) | (refine CanT.cellG rfl ?_ (.bool true) (.bool true) ⟨gu, k * 4, none⟩ (fun w' e => by rw [← e]; exact Hc0.out) ?_ (fun K hK => ?_); (focus (go_simp; done)); (focus (intro w' hc'; go_simp; (try rfl))); go_simp; refine hK _ ?_; clear hK K) | (refine CanT.cellG rfl ?_ (.int .i64 x2) (.int .i64 x2) ⟨gu, k * 4 + 1, none⟩ (fun w' e => by rw [← e]; exact Hc1.out) ?_ (fun K hK => ?_); (focus (go_simp; done)); (focus (intro w' hc'; go_simp; (try rfl))); go_simp; refine hK _ ?_; clear hK K) | (refine CanT.cellG rfl ?_ (.int .i64 x3) (.int .i64 x3) ⟨gu, k * 4 + 2, none⟩ (fun w' e => by rw [← e]; exact Hc2.out) ?_ (fun K hK => ?_); (focus (go_simp; done)); (focus (intro w' hc'; go_simp; (try rfl))); go_simp; refine hK _ ?_; clear hK K))
  refine CanT.done ?_
  have k2 : W.cell? ⟨g, 2, none⟩ = some (.slice (some ⟨gu, 0, none⟩) (k + 1) cu) := Hd2.out
  have k3 : W.cell? ⟨gu, k * 4 + 2, none⟩ = some (.int .i64 x3) := Hc2.out
  have kf := Blk.frozen Hbu.out
  have hgne : g ≠ gu := (Blk.ne_ Hbu.out HBW.out fop_ne).symm
  have R1 : Blk (W.setCell ⟨gu, k * 4 + 2, none⟩ (.int .i64 (x3 + (z : Int)))) g 64 #[.slice A n c, .int .i64 (i : Int), .slice (some ⟨gu, 0, none⟩) (k + 1) cu] := HBW.out.far hgne _
  have R2 := Hset.out (x3 + (z : Int)) (by omega)
  have k4 : (W.setCell ⟨gu, k * 4 + 2, none⟩ (.int .i64 (x3 + (z : Int)))).cell? ⟨g, 1, none⟩ = some (.int .i64 (i : Int)) := by rw [Blk.cell R1]; rfl
  have kf4 := Blk.frozen R1
  have hw5 : IntKind.i64.wrap (x3 + (z : Int)) = x3 + (z : Int) := by rw [IntKind.wrap_i64]; omega
  have Q1 := Lib.hid R1
  have Q2 := Lib.hid R2
  have Hgu := Lib.hid hgu
  clear R1 R2
  go_wp2_with fail
  refine bodyPost_end (results_none rfl _ _ _) rfl ?_
  exact ⟨rfl, _, ⟨Hbg.out, _, Blk.set_ Q1.out 1 (.int .i64 ((i : Int) + (z : Int))), ownO_far (i := 1) (x := .int .i64 ((i : Int) + (z : Int))) Q2.out Q1.out fop_ne fdr_ne⟩, by rw [HLx.out, Hput.out], (HDW.out.setCell (p := ⟨gu, k * 4 + 2, none⟩) Hgu.out _).setCell (p := ⟨g, 1, none⟩) Hbg.out _⟩
set_option maxRecDepth 100000 in
set_option maxHeartbeats 8000000 in
theorem copied_calls {w : World} {base g : Nat} {A : Option Addr} {n c frm : Nat} {L : List Ow} (h : IsF w base g A n c frm L) (b : List UInt8) (hn : n = b.length) (hc : n ≤ c) (hcm : c ≤ 9223372036854775807) (hr : ReadB w base A b) (hbl : n ≤ 1000000) (i z : Nat) (a : Int) (h1 : frm ≤ i) (h2 : i + z ≤ n) (hL : L.length ≤ 999990) (ha : 0 ≤ a ∧ a ≤ 33554432) (hs : Small (ops L) frm) :
    Calls Tryd.prog 35 #[.pointer (some ⟨g, 0, none⟩), .int .i64 (i : Int), .int .i64 a, .int .i64 (z : Int)] w fun e w' => e = .returned (.tuple #[]) ∧ ∃ R, IsF w' base g A n c (i + z) R ∧ ops R = put1 z b (ops L) frm i a ∧ Below base w w' := by
  by_cases hne : i = frm
  · rcases L.eq_nil_or_concat with h0 | ⟨L0, x, hLx⟩
    · exact copied_b h b hn hc hcm hr hbl i z a h1 h2 hL ha hs hne h0
    · rw [List.concat_eq_append] at hLx
      obtain ⟨⟨x1, x2, x3, x4⟩, D, e⟩ := x
      cases x1 with
      | false => exact copied_c h b hn hc hcm hr hbl i z a h1 h2 hL ha hs hne L0 false x2 x3 x4 D e hLx rfl
      | true =>
        by_cases hx2 : x2 + x3 = a
        · exact copied_e h b hn hc hcm hr hbl i z a h1 h2 hL ha hs hne L0 true x2 x3 x4 D e hLx rfl hx2
        · exact copied_d h b hn hc hcm hr hbl i z a h1 h2 hL ha hs hne L0 true x2 x3 x4 D e hLx rfl hx2
  · exact copied_a h b hn hc hcm hr hbl i z a h1 h2 hL ha hs (fun e => hne e.symm)
/-- numbers stay small -/
theorem Small.put1 {z : Nat} {b : List UInt8} {out : List O} {frm i : Nat} {a : Int} (h : Small out frm) (hi : frm ≤ i) (ha : 0 ≤ a ∧ a ≤ 33554432) : Small (Tm.put1 z b out frm i a) (i + z) := by
  unfold Tm.put1
  split
  · rename_i hj
    obtain ⟨rfl, o, ho, hc, hp⟩ := joins_spec hj
    have hsp := last_split out o ho
    rw [grow_eq out o z ho]
    rw [hsp] at h
    intro x hx
    rcases List.mem_append.1 hx with hx | hx
    · have := h x (List.mem_append_left _ hx); omega
    · rw [List.mem_singleton] at hx
      subst hx
      have := h o (List.mem_append_right _ (List.mem_singleton.2 rfl))
      simp only
      omega
  · refine ((h.mono (by omega)).app (Small.whole _ _)).app (fun x hx => ?_)
    rw [List.mem_singleton] at hx
    subst hx
    simp only [cp]
    omega
theorem put1_len {z : Nat} {b : List UInt8} {out : List O} {frm i : Nat} {a : Int} : (Tm.put1 z b out frm i a).length ≤ out.length + 2 := by
  unfold Tm.put1
  split
  · rename_i hj
    obtain ⟨rfl, o, ho, hc, hp⟩ := joins_spec hj
    rw [grow_eq out o z ho]
    have := last_split out o ho
    have h2 : out.length = (out.dropLast ++ [o]).length := congrArg List.length this
    simp at h2 ⊢
    omega
  · have := whole_len (cut b frm i)
    simp
    omega
end Ms
end Go.Proofs.YtiofkhjpknfkgaaDoor
/- Halves, Sum, Pack of the document's answer. -/
namespace Go.Proofs.YtiofkhjpknfkgaaDoor
namespace Ro
open Go.RowKit Flo Ba
set_option linter.unusedVariables false
set_option maxRecDepth 100000 in
set_option maxHeartbeats 1000000 in
theorem halves_calls {l : List UInt8} {A : Option Addr} {n c B : Nat} {w : World} (hn : n = l.length) (hr : ReadB w B A l) (hm : l.length ≤ 140737488355328) : Calls Tryd.prog 61 #[.slice A n c] w fun e w' => e = .returned (.tuple #[.int .i64 (ha l : Nat), .int .i64 (hb l : Nat)]) ∧ w = w' := by
  subst hn
  have Hr := Lib.hid hr
  clear hr
  go_enter Tryd.func61, Tryd.ntmps61
  go_wp2_with fail
  go_loop [4, 5, 6] (fun x y i => ∃ k : Nat, k ≤ l.length ∧ i = .int .i64 k ∧ x = .int .i64 (ha (l.take k) : Nat) ∧ y = .int .i64 (yk l k : Nat)) (fun _ _ i => l.length - (intOf i).toNat)
  case atStart => exact ⟨0, Nat.zero_le _, rfl, rfl, by rw [yk_zero]; rfl⟩
  case round =>
    obtain ⟨k, hk, rfl, rfl, rfl⟩ := hrel
    by_cases hlt : k < l.length
    · obtain ⟨b, o, rfl, _, hc⟩ := Hr.out (by omega)
      have hck := hc k hlt
      have h1 := ha_take l k hlt
      have h2 := yk_succ l k hlt
      have h3 := ha_lt (l.take k)
      have h4 : yk l k < 65536 := Nat.mod_lt _ (by omega)
      have h5 := (l.getD k 0).toNat_lt
      generalize (l.getD k 0).toNat = x at *
      generalize ha (l.take k) = a at *
      generalize yk l k = y at *
      have H1 := Lib.hid h1
      have H2 := Lib.hid h2
      have m1 : ((l.length - k) % 65536 : Nat) < 65536 := Nat.mod_lt _ (by omega)
      have m2 : ((l.length : Int) - (k : Int)) % 65536 = (((l.length - k) % 65536 : Nat) : Int) := by omega
      obtain ⟨q, hq⟩ : ∃ q : Nat, q = (l.length - k) % 65536 := ⟨_, rfl⟩
      rw [← hq] at m1 m2
      have m3 : q * x < 65536 * 256 := Nat.mul_lt_mul_of_lt_of_lt m1 h5
      have m4 : (q : Int) * (x : Int) = ((q * x : Nat) : Int) := by rw [Int.natCast_mul]
      obtain ⟨p, hp⟩ : ∃ p : Nat, p = q * x := ⟨_, rfl⟩
      rw [← hp] at m3 m4
      have HP := Lib.hid hp
      have HQ := Lib.hid hq
      have hkk : (k : Int) ≤ (l.length : Int) := by omega
      clear hc h1 h2 hq hp
      go_wp2_with fail
      go_round
      case rel =>
        refine ⟨k + 1, by omega, by go_num, ?_, ?_⟩
        · rw [H1.out]; simp
        · rw [H2.out, ← HQ.out, ← HP.out]; simp
      case measure => simp [intOf]; omega
    · have hkk : k = l.length := by omega
      subst hkk
      rw [List.take_length, yk_all]
      go_wp2_with fail
      go_ret2
      exact ⟨rfl, rfl⟩
set_option maxRecDepth 100000 in
set_option maxHeartbeats 1000000 in
theorem rsum_calls {l : List UInt8} {A : Option Addr} {n c B : Nat} {w : World} (hn : n = l.length) (hr : ReadB w B A l) (hm : l.length ≤ 140737488355328) : Calls Tryd.prog 27 #[.slice A n c] w fun e w' => e = .returned (.int .u32 (rsum l : Nat)) ∧ w = w' := by
  have h1 := ha_lt l
  have h2 := hb_lt l
  have he : ((65536 : Int) * (hb l : Int) + (ha l : Int)) = ((rsum l : Nat) : Int) := by unfold rsum; omega
  have He := Lib.hid he
  have Hq := Lib.hid (halves_calls (c := c) hn hr hm)
  generalize ha l = a at *
  generalize hb l = b at *
  clear hr he hn
  go_enter Tryd.func27, Tryd.ntmps27
  go_wp2_with fail
  refine Hq.out.mono ?_
  rintro e w1 ⟨rfl, rfl⟩
  go_wp2_with fail
  go_ret
  exact ⟨by rw [← He.out]; rfl, rfl⟩
/-- what is packed -/
def pk (x y : Int) : Int := if x < -1125899906842624 ∨ 1125899906842624 < x ∨ y < -1125899906842624 ∨ 1125899906842624 < y then 0 else y % 65536 * 65536 + x % 65536
end Ro
end Go.Proofs.YtiofkhjpknfkgaaDoor

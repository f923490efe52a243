/- What is left of operations, to the program; decoders: a new one, what it made, what is left over, a fork. -/
import Derived.Test.YtiofkhjpknfkgaaDoorP01
import Derived.Test.YtiofkhjpknfkgaaDoorP02
import Derived.Test.YtiofkhjpknfkgaaDoorP03
import Derived.Test.YtiofkhjpknfkgaaDoorP04
import Derived.Test.YtiofkhjpknfkgaaDoorP05
import Derived.Test.YtiofkhjpknfkgaaDoorP06
import Derived.Test.YtiofkhjpknfkgaaDoorP07
import Derived.Test.YtiofkhjpknfkgaaDoorP08
import Derived.Test.YtiofkhjpknfkgaaDoorP09
import Derived.Test.YtiofkhjpknfkgaaDoorP10
import Derived.Test.YtiofkhjpknfkgaaDoorP11
import Derived.Test.YtiofkhjpknfkgaaDoorP12
import Derived.Test.YtiofkhjpknfkgaaDoorP13
namespace Go.Proofs.YtiofkhjpknfkgaaDoor
namespace Dm
open Tm
theorem from_at (l : List O) (k : Nat) (m : Int) (h : k < l.length) : from_ (l.drop k) m = if m ≤ 0 then at_ l k :: from_ (l.drop (k + 1)) m else if makes (at_ l k) ≤ m then from_ (l.drop (k + 1)) (m - makes (at_ l k)) else cutx (at_ l k) m :: from_ (l.drop (k + 1)) 0 := by
  rw [drop_at l k h]
  rfl
theorem from_end (l : List O) (k : Nat) (m : Int) (h : l.length ≤ k) : from_ (l.drop k) m = [] := by rw [List.drop_of_length_le h]; rfl
end Dm
namespace Dl
open Go.RowKit Ba Tm Dm Os_
set_option linter.unusedVariables false
theorem lit_op {w : World} (c : Bool) (p n : Int) (d : List UInt8) (A : Option Addr) (k : Nat) : ReadRow opv 4 (w.alloc (.cells #[.bool c, .int .i64 p, .int .i64 n, .slice A d.length k] 40)) (w.heap.size + 1) (some ⟨w.heap.size, 0, none⟩) [(⟨c, p, n, d⟩, A, k)] :=
  ReadRow.lit1 (f := opv) (sz := 4) w 40 #[.bool c, .int .i64 p, .int .i64 n, .slice A d.length k] ((⟨c, p, n, d⟩ : Tm.O), A, k) rfl rfl (opv_one _)
set_option maxRecDepth 100000 in
set_option maxHeartbeats 8000000 in
theorem from_calls (L : List Ow) (A : Option Addr) (n c : Nat) (m : Int) (hn : n = L.length) (h4 : n ≤ 4096) (hm : 0 ≤ m ∧ m ≤ 1099511627776) (hmk : ∀ x ∈ ops L, 0 ≤ makes x ∧ x.data.length ≤ 65536 ∧ x.pos ≤ 4611686018427387904) (w : World) (h : ReadO w w.heap.size A L) :
    Calls Tryd.prog 52 #[.slice A n c, .int .i64 m] w fun e w' => ∃ (v : Value) (M : List Ow), e = .returned v ∧ OwnO w' w.heap.size v M ∧ ops M = from_ (ops L) m ∧ Below w.heap.size w w' := by
  have hol : (ops L).length = n := by rw [ops_len, hn]
  obtain ⟨iO, hiO⟩ := isOp
  obtain ⟨i0, hi0⟩ := isByte_of Vi.info5
  have Hi0 := Lib.hid hi0
  have Hi := Lib.hid hiO
  have Hh := Lib.hid h
  have Hol := Lib.hid hol
  have Hn := Lib.hid hn
  have Hmk := Lib.hid hmk
  have Hfa := Lib.hid (fun k m hk => from_at (ops L) k m hk)
  clear hiO hi0 h hol hn hmk
  go_enter Tryd.func52, Tryd.ntmps52
  go_wp2_with fail
  go_loopg [1, 5, 11] n (fun q v1 v5 vi wr => ∃ (k : Nat) (r : Int) (M : List Ow), k ≤ n ∧ q = n - k ∧ vi = .int .i64 (k : Int) ∧ v1 = .int .i64 r ∧ 0 ≤ r ∧ r ≤ 1099511627776 ∧ OwnO wr w.heap.size v5 M ∧ M.length ≤ k ∧ ops M ++ from_ ((ops L).drop k) r = from_ (ops L) m ∧ Below w.heap.size w wr)
  case atStart => exact ⟨0, m, [], by omega, rfl, rfl, rfl, hm.1, hm.2, OwnO.nil, by simp, by simp [ops], Below.refl _ _⟩
  case round =>
    obtain ⟨k, r, M, hk, hq, rfl, rfl, hr0, hr1, ho, hM, he, hb⟩ := hrel
    have Hq := Lib.hid hq
    have Ho := Lib.hid ho
    have HB := Lib.hid hb
    have HM := Lib.hid hM
    have He := Lib.hid he
    clear hq ho hb hM he
    by_cases hkn : k < n
    · have hkl : k < L.length := by rw [← Hn.out]; exact hkn
      obtain ⟨b, o, x1, x2, x3, x4, D, e, rfl, hbB, hx, hc, k1, k2, k3, k4, w5⟩ := ReadO.op Hh.out hkl
      have hat := ops_at L k hkl
      rw [hx] at hat
      have HC : Hid (wr.rangeAt b (o + k * 4) [.bool x1, .int .i64 x2, .int .i64 x3, .slice D x4.length e]) := Lib.hid fun jj v hv => (HB.out.cell (p := ⟨b, o + k * 4 + jj, none⟩) hbB).trans (hc jj v hv)
      have hko : k < (ops L).length := by rw [Hol.out]; exact hkn
      have hf := Hfa.out k r hko
      obtain ⟨hx0, hx1, hx2⟩ := Hmk.out _ (mem_at (ops L) k hko)
      rw [hat] at hf hx0 hx1 hx2
      simp only at hx1 hx2
      have hcl := Cl.cloneN (c := e) (A := D) (n := x4.length) (w := wr.alloc (.cells #[.bool x1, .int .i64 x2, .int .i64 x3, .slice D x4.length e] 40)) (l := x4) rfl k3 (by omega) (((w5.below HB.out).alloc HB.out.size _).more (by have := HB.out.size; simp; omega))
      have hmm := fun A e w => makes_calls x1 x2 x3 A x4.length e w
      have hmv : makes ⟨x1, x2, x3, x4⟩ = if x1 then x3 else (x4.length : Int) := rfl
      have hmy : (if x1 then x3 else (x4.length : Int)) ≤ 9223372036854775807 := by split <;> omega
      rw [← hmv] at hmm hmy
      generalize hmq : makes ⟨x1, x2, x3, x4⟩ = y at *
      have hb0 : Below wr.heap.size wr (wr.alloc (.cells #[.bool x1, .int .i64 x2, .int .i64 x3, .slice D x4.length e] 40)) := (Below.refl _ _).alloc (Nat.le_refl _) _
      have hB0 : Blk (wr.alloc (.cells #[.bool x1, .int .i64 x2, .int .i64 x3, .slice D x4.length e] 40)) wr.heap.size 40 #[.bool x1, .int .i64 x2, .int .i64 x3, .slice D x4.length e] := heap_alloc_new wr _
      have Hf := Lib.hid hf
      have Hcl := Lib.hid hcl
      have Hmm := Lib.hid hmm
      have Hmq := Lib.hid hmq
      have Hx1 := Lib.hid hx1
      have Hx2 := Lib.hid hx2
      have Hb0 := Lib.hid hb0
      have HB0 := Lib.hid hB0
      clear hx hc w5 hat hf hcl hmm hmq hmv hx1 hx2 hko hb0 hB0
      go_wp2_with (refine wpList_load_mid rfl 40 (.tmp 13) rfl b (o + k * 4) rfl [.bool x1, .int .i64 x2, .int .i64 x3, .slice D x4.length e] _ HC.out Tryd.underlying40 rfl (by kernel_rfl) ?_)
      refine Calls.mono Hcl.out ?_
      rintro e1 w1' ⟨v1, rfl, ho1, hb1⟩
      obtain ⟨A1, c1, rfl, hp1, hm1, -, -⟩ := ho1.opens
      have hrt := RT.of_own ho1
      have hB1 := HB0.out.below hb1 HB0.out.lt
      have Hbw := Lib.hid (Hb0.out.trans (hb1.mono (by simp)))
      have f5 := Blk.frozen hB1
      have hB2 : Blk (w1'.setCell ⟨wr.heap.size, 3, none⟩ (.slice A1 x4.length c1)) wr.heap.size 40 #[.bool x1, .int .i64 x2, .int .i64 x3, .slice A1 x4.length c1] := Blk.set_ hB1 3 _
      have hrt2 : RT (w1'.setCell ⟨wr.heap.size, 3, none⟩ (.slice A1 x4.length c1)) A1 x4 := hrt.row (only_set w1' wr.heap.size 3 _) (fun g hg => by injection hg with hg; subst hg; exact ⟨_, _, hB1, op_ne⟩)
      have Hbw2 : Hid (Below wr.heap.size wr (w1'.setCell ⟨wr.heap.size, 3, none⟩ (.slice A1 x4.length c1))) := Lib.hid (Hbw.out.setCell (Nat.le_refl _) _)
      have HC2 := Lib.hid (op_cells hB2).2.2.2.2
      have f6 : w1'.cell? ⟨wr.heap.size, 3, none⟩ = some (.slice D x4.length e) := by rw [Blk.cell hB1]; rfl
      have HB2 := Lib.hid hB2
      have Hrt2 := Lib.hid hrt2
      clear ho1 hb1 hB1 hrt HC Hcl hB2 hrt2 HB0 Hb0
      go_wp2_with (refine wpList_load_mid rfl 40 (.tmp 7) rfl wr.heap.size 0 rfl [.bool x1, .int .i64 x2, .int .i64 x3, .slice A1 x4.length c1] _ HC2.out Tryd.underlying40 rfl (by kernel_rfl) ?_)
      refine Calls.mono (Hmm.out A1 c1 _) ?_
      rintro e2 w2 ⟨rfl, hb2⟩
      have hB3 := HB2.out.below hb2 HB2.out.lt
      have hW2 : Below wr.heap.size wr w2 := Hbw2.out.trans (hb2.mono (by simpa using Hbw.out.size))
      have HRt := Lib.hid (Hrt2.out.below hb2)
      have HB3 := Lib.hid hB3
      have HW2 := Lib.hid hW2
      have Hp1 := Lib.hid hp1
      have Hm1 := Lib.hid hm1
      obtain ⟨f0, f1, f2, f3, f4⟩ := op_cells hB3
      have f7 := Blk.frozen hB3
      have HF4 := Lib.hid f4
      clear f5 f6 hb2 hB3 hW2 HB2 Hrt2 HC2 Hbw Hbw2 Hmm hp1 hm1 f4
      by_cases hr : 0 < r
      · by_cases hy : y ≤ r
        · have hnext : ops M ++ from_ ((ops L).drop (k + 1)) (r - y) = from_ (ops L) m := by rw [← He.out, Hf.out, if_neg (by omega), if_pos hy]
          have Hnx := Lib.hid hnext
          have HO2 := Lib.hid (Ho.out.keptB HW2.out)
          have HBn := Lib.hid (HB.out.trans (HW2.out.mono HB.out.size))
          clear hnext
          go_wp2_with fail
          go_roundg (n - (k + 1))
          case rel => exact ⟨k + 1, r - y, M, by omega, rfl, rfl, by go_num, by omega, by omega, HO2.out, by have := HM.out; omega, Hnx.out, HBn.out⟩
          case measure => have := Hq.out; omega
        · cases x1 with
          | true =>
            have hx3 : x3 = y := by have := Hmq.out; simpa [makes] using this
            subst hx3
            have hcu : cutx ⟨true, x2, x3, x4⟩ r = ⟨true, x2 + r, x3 - r, x4⟩ := by simp [cutx]
            have hnext : ops (M ++ [(⟨true, x2 + r, x3 - r, x4⟩, A1, c1)]) ++ from_ ((ops L).drop (k + 1)) 0 = from_ (ops L) m := by rw [← He.out, Hf.out, if_neg (by omega), if_neg hy, hcu]; simp [ops]
            have Hnx := Lib.hid hnext
            have hB4 : Blk ((w2.setCell ⟨wr.heap.size, 1, none⟩ (.int .i64 (x2 + r))).setCell ⟨wr.heap.size, 2, none⟩ (.int .i64 (x3 - r))) wr.heap.size 40 #[.bool true, .int .i64 (x2 + r), .int .i64 (x3 - r), .slice A1 x4.length c1] := Blk.set_ (Blk.set_ HB3.out 1 _) 2 _
            have HF5 := Lib.hid (op_cells hB4).2.2.2.2
            have HW5 : Hid (Below wr.heap.size wr ((w2.setCell ⟨wr.heap.size, 1, none⟩ (.int .i64 (x2 + r))).setCell ⟨wr.heap.size, 2, none⟩ (.int .i64 (x3 - r)))) := Lib.hid ((HW2.out.setCell (Nat.le_refl _) _).setCell (Nat.le_refl _) _)
            have hrt5 : RT ((w2.setCell ⟨wr.heap.size, 1, none⟩ (.int .i64 (x2 + r))).setCell ⟨wr.heap.size, 2, none⟩ (.int .i64 (x3 - r))) A1 x4 := (HRt.out.row (only_set w2 wr.heap.size 1 (.int .i64 (x2 + r))) (fun g hg => by injection hg with hg; subst hg; exact ⟨_, _, HB3.out, op_ne⟩)).row (only_set _ wr.heap.size 2 (.int .i64 (x3 - r))) (fun g hg => by injection hg with hg; subst hg; exact ⟨_, _, Blk.set_ HB3.out 1 _, op_ne⟩)
            have HRt5 := Lib.hid hrt5
            have t1 : -9223372036854775808 ≤ x2 + r ∧ x2 + r ≤ 9223372036854775807 := by have := Hx2.out; omega
            have t2 : -9223372036854775808 ≤ x3 - r ∧ x3 - r ≤ 9223372036854775807 := by omega
            clear hnext hB4 hrt5 hcu
            have HO2 := Lib.hid (Ho.out.keptB HW5.out)
            go_wp2_with (first
              | (refine wpList_load_mid rfl 40 (.tmp 7) rfl wr.heap.size 0 rfl [.bool true, .int .i64 (x2 + r), .int .i64 (x3 - r), .slice A1 x4.length c1] _ HF5.out Tryd.underlying40 rfl (by kernel_rfl) ?_)
              | (refine wpList_bslice _ rfl 31 40 1 _ rfl Tryd.underlying31 iO 4 48 Hi.out (by omega) (by omega) [(0, .agg #[.bool true, .int .i64 (x2 + r), .int .i64 (x3 - r), .slice A1 x4.length c1])] rfl [.bool true, .int .i64 (x2 + r), .int .i64 (x3 - r), .slice A1 x4.length c1] (fun Z hZ => fill_one 4 (.agg #[.bool true, .int .i64 (x2 + r), .int .i64 (x3 - r), .slice A1 x4.length c1]) rfl Z hZ) ?_)
              | (at_builtin; go_loud (refine wpList_appR _ rfl (.tmp 54) (.tmp 56) 31 rfl w.heap.size 40 iO 48 Tryd.underlying31 Hi.out (by omega) _ _ rfl (HO2.out.alloc _).1 (((w2.setCell ⟨wr.heap.size, 1, none⟩ (.int .i64 (x2 + r))).setCell ⟨wr.heap.size, 2, none⟩ (.int .i64 (x3 - r))).heap.size + 1) (some ⟨((w2.setCell ⟨wr.heap.size, 1, none⟩ (.int .i64 (x2 + r))).setCell ⟨wr.heap.size, 2, none⟩ (.int .i64 (x3 - r))).heap.size, 0, none⟩) 1 1 [(⟨true, x2 + r, x3 - r, x4⟩, A1, c1)] rfl rfl (lit_op _ _ _ _ _ _) (by have := HM.out; simp; omega) (by have := HM.out; simp; omega) (Nat.le_trans (HB.out.trans (HW5.out.mono HB.out.size)).size (by simp)) ?_); intro v9 w9 ho9 hg9 _ hb9))
            have HO9 := Lib.hid ((HO2.out.alloc _).app ho9 hg9 (fun y hy => by simp at hy; subst hy; exact WfT.below (⟨t1, t2, Hp1.out, Hm1.out, HRt5.out⟩) ((Below.refl _ _).alloc (Nat.le_refl _) _)))
            have HB9 := Lib.hid ((HB.out.trans (HW5.out.mono HB.out.size)).alloc (by have := HW5.out.size; have := HB.out.size; omega) (.cells #[.bool true, .int .i64 (x2 + r), .int .i64 (x3 - r), .slice A1 x4.length c1] 40) |>.trans hb9)
            clear ho9 hg9 hb9
            go_wp2_with fail
            go_roundg (n - (k + 1))
            case rel => exact ⟨k + 1, 0, M ++ [(⟨true, x2 + r, x3 - r, x4⟩, A1, c1)], by omega, rfl, rfl, rfl, by omega, by omega, HO9.out, by have := HM.out; simp; omega, Hnx.out, HB9.out⟩
            case measure => have := Hq.out; omega
          | false =>
            obtain ⟨z, rfl⟩ : ∃ z : Nat, r = (z : Int) := ⟨r.toNat, by omega⟩
            have hyl : (x4.length : Int) = y := by have := Hmq.out; simpa [makes] using this
            have hzl : z < x4.length := by omega
            have hcu : cutx ⟨false, x2, x3, x4⟩ (z : Int) = ⟨false, x2, x3, x4.drop z⟩ := by simp [cutx]
            obtain ⟨A6, hA6⟩ : ∃ A6, A6 = if c1 = z then A1 else A1.map (·.add z) := ⟨_, rfl⟩
            obtain ⟨c6, hc6⟩ : ∃ c6, c6 = c1 - z := ⟨_, rfl⟩
            have hsl := fun w' => sl_l (P := Tryd.prog) 22 5 i0 Tryd.underlying22 Hi0.out A1 x4.length c1 (z : Int) z rfl (by omega) w'
            rw [← hA6, ← hc6] at hsl
            have hnext : ops (M ++ [(⟨false, x2, x3, x4.drop z⟩, A6, c6)]) ++ from_ ((ops L).drop (k + 1)) 0 = from_ (ops L) m := by rw [← He.out, Hf.out, if_neg (by omega), if_neg hy, hcu]; simp [ops]
            have Hnx := Lib.hid hnext
            have hdl : x4.length - z = (x4.drop z).length := by rw [List.length_drop]
            have hB4 : Blk (w2.setCell ⟨wr.heap.size, 3, none⟩ (.slice A6 (x4.length - z) c6)) wr.heap.size 40 #[.bool false, .int .i64 x2, .int .i64 x3, .slice A6 (x4.length - z) c6] := Blk.set_ HB3.out 3 _
            have HF5 := Lib.hid (op_cells hB4).2.2.2.2
            have HW5 : Hid (Below wr.heap.size wr (w2.setCell ⟨wr.heap.size, 3, none⟩ (.slice A6 (x4.length - z) c6))) := Lib.hid (HW2.out.setCell (Nat.le_refl _) _)
            have hrt4 : RT w2 A6 (x4.drop z) := by
              obtain ⟨b6, o6, cs6, rfl, hb6, _⟩ := HRt.out (by omega)
              have := HRt.out.drop z
              rw [hA6, if_neg (by have := Hp1.out; omega), Option.map_some, add_lit_]
              exact this
            have hrt5 : RT (w2.setCell ⟨wr.heap.size, 3, none⟩ (.slice A6 (x4.length - z) c6)) A6 (x4.drop z) := hrt4.row (only_set w2 wr.heap.size 3 (.slice A6 (x4.length - z) c6)) (fun g hg => by injection hg with hg; subst hg; exact ⟨_, _, HB3.out, op_ne⟩)
            have HRt5 := Lib.hid hrt5
            have Hp6 : Hid ((x4.drop z).length ≤ c6) := Lib.hid (by rw [List.length_drop, hc6]; have := Hp1.out; omega)
            have Hm6 : Hid (c6 ≤ 9223372036854775807) := Lib.hid (by rw [hc6]; have := Hm1.out; omega)
            rw [hdl] at HF5 HW5 hsl HRt5
            obtain ⟨T, hT⟩ : ∃ T, T = x4.drop z := ⟨_, rfl⟩
            rw [← hT] at HF5 HW5 hsl HRt5 Hp6 Hnx
            have hz0 : 0 < (z : Int) := by omega
            clear hnext hB4 hrt5 hrt4 hcu hA6 hc6 hdl hT
            have HO2 := Lib.hid (Ho.out.keptB HW5.out)
            go_wp2_with (first
              | (refine wpList_load_mid rfl 40 (.tmp 7) rfl wr.heap.size 0 rfl [.bool false, .int .i64 x2, .int .i64 x3, .slice A6 T.length c6] _ HF5.out Tryd.underlying40 rfl (by kernel_rfl) ?_)
              | (refine wpList_bslice _ rfl 31 40 1 _ rfl Tryd.underlying31 iO 4 48 Hi.out (by omega) (by omega) [(0, .agg #[.bool false, .int .i64 x2, .int .i64 x3, .slice A6 T.length c6])] rfl [.bool false, .int .i64 x2, .int .i64 x3, .slice A6 T.length c6] (fun Z hZ => fill_one 4 (.agg #[.bool false, .int .i64 x2, .int .i64 x3, .slice A6 T.length c6]) rfl Z hZ) ?_)
              | (at_builtin; go_loud (refine wpList_appR _ rfl (.tmp 54) (.tmp 56) 31 rfl w.heap.size 40 iO 48 Tryd.underlying31 Hi.out (by omega) _ _ rfl (HO2.out.alloc _).1 ((w2.setCell ⟨wr.heap.size, 3, none⟩ (.slice A6 T.length c6)).heap.size + 1) (some ⟨(w2.setCell ⟨wr.heap.size, 3, none⟩ (.slice A6 T.length c6)).heap.size, 0, none⟩) 1 1 [(⟨false, x2, x3, T⟩, A6, c6)] rfl rfl (lit_op _ _ _ _ _ _) (by have := HM.out; simp; omega) (by have := HM.out; simp; omega) (Nat.le_trans (HB.out.trans (HW5.out.mono HB.out.size)).size (by simp)) ?_); intro v9 w9 ho9 hg9 _ hb9))
            have HO9 := Lib.hid ((HO2.out.alloc _).app ho9 hg9 (fun y hy => by simp at hy; subst hy; exact WfT.below (⟨k1, k2, Hp6.out, Hm6.out, HRt5.out⟩) ((Below.refl _ _).alloc (Nat.le_refl _) _)))
            have HB9 := Lib.hid ((HB.out.trans (HW5.out.mono HB.out.size)).alloc (by have := HW5.out.size; have := HB.out.size; omega) (.cells #[.bool false, .int .i64 x2, .int .i64 x3, .slice A6 T.length c6] 40) |>.trans hb9)
            clear ho9 hg9 hb9
            go_wp2_with fail
            go_roundg (n - (k + 1))
            case rel => exact ⟨k + 1, 0, M ++ [(⟨false, x2, x3, T⟩, A6, c6)], by omega, rfl, rfl, rfl, by omega, by omega, HO9.out, by have := HM.out; simp; omega, Hnx.out, HB9.out⟩
            case measure => have := Hq.out; omega
      · have hr2 : r = 0 := by omega
        subst hr2
        have hnext : ops (M ++ [(⟨x1, x2, x3, x4⟩, A1, c1)]) ++ from_ ((ops L).drop (k + 1)) 0 = from_ (ops L) m := by rw [← He.out, Hf.out, if_pos (by omega)]; simp [ops]
        have Hnx := Lib.hid hnext
        clear hnext
        have HO2 := Lib.hid (Ho.out.keptB HW2.out)
        go_wp2_with (first
          | (refine wpList_load_mid rfl 40 (.tmp 7) rfl wr.heap.size 0 rfl [.bool x1, .int .i64 x2, .int .i64 x3, .slice A1 x4.length c1] _ HF4.out Tryd.underlying40 rfl (by kernel_rfl) ?_)
          | (refine wpList_bslice _ rfl 31 40 1 _ rfl Tryd.underlying31 iO 4 48 Hi.out (by omega) (by omega) [(0, .agg #[.bool x1, .int .i64 x2, .int .i64 x3, .slice A1 x4.length c1])] rfl [.bool x1, .int .i64 x2, .int .i64 x3, .slice A1 x4.length c1] (fun Z hZ => fill_one 4 (.agg #[.bool x1, .int .i64 x2, .int .i64 x3, .slice A1 x4.length c1]) rfl Z hZ) ?_)
          | (at_builtin; go_loud (refine wpList_appR _ rfl (.tmp 54) (.tmp 56) 31 rfl w.heap.size 40 iO 48 Tryd.underlying31 Hi.out (by omega) _ _ rfl (HO2.out.alloc _).1 (w2.heap.size + 1) (some ⟨w2.heap.size, 0, none⟩) 1 1 [(⟨x1, x2, x3, x4⟩, A1, c1)] rfl rfl (lit_op _ _ _ _ _ _) (by have := HM.out; simp; omega) (by have := HM.out; simp; omega) (Nat.le_trans (HB.out.trans (HW2.out.mono HB.out.size)).size (by simp)) ?_); intro v9 w9 ho9 hg9 _ hb9))
        have HO9 := Lib.hid ((HO2.out.alloc _).app ho9 hg9 (fun y hy => by simp at hy; subst hy; exact WfT.below (⟨k1, k2, Hp1.out, Hm1.out, HRt.out⟩) ((Below.refl _ _).alloc (Nat.le_refl _) _)))
        have HB9 := Lib.hid ((HB.out.trans (HW2.out.mono HB.out.size)).alloc (by have := HW2.out.size; have := HB.out.size; omega) (.cells #[.bool x1, .int .i64 x2, .int .i64 x3, .slice A1 x4.length c1] 40) |>.trans hb9)
        clear ho9 hg9 hb9
        go_wp2_with fail
        go_roundg (n - (k + 1))
        case rel => exact ⟨k + 1, 0, M ++ [(⟨x1, x2, x3, x4⟩, A1, c1)], by omega, rfl, rfl, rfl, by omega, by omega, HO9.out, by have := HM.out; simp; omega, Hnx.out, HB9.out⟩
        case measure => have := Hq.out; omega
    · have hke : k = n := by omega
      go_wp2_with fail
      go_ret
      have hend := from_end (ops L) k r (by rw [Hol.out]; omega)
      refine ⟨_, M, rfl, Ho.out, ?_, HB.out⟩
      rw [← He.out, hend, List.append_nil]
end Dl
end Go.Proofs.YtiofkhjpknfkgaaDoor
/- Decoders, to the program: a new one, what it made, what is left over, a fork. -/
namespace Go.Proofs.YtiofkhjpknfkgaaDoor
namespace Dl
open Go.RowKit Ba Tm Dm Os_
set_option linter.unusedVariables false
/-- a decoder in block g: the old file's length, what was made, what is left over, the error -/
def IsD (w : World) (g : Nat) (old made : Int) (b : List UInt8) (e : Int) : Prop :=
  ∃ A c, Blk w g 95 #[.int .i64 old, .int .i64 made, .slice A b.length c, .int .i64 e] ∧ b.length ≤ c ∧ c ≤ 9223372036854775807 ∧ RT w A b
section
variable {w w' : World} {g : Nat} {old made : Int} {b : List UInt8} {e : Int}
theorem IsD.lt (h : IsD w g old made b e) : g < w.heap.size := by obtain ⟨A, c, h, _⟩ := h; exact h.lt
theorem IsD.below (h : IsD w g old made b e) (hb : Below w.heap.size w w') : IsD w' g old made b e := by
  obtain ⟨A, c, h1, h2, h3, h4⟩ := h
  exact ⟨A, c, h1.below hb h1.lt, h2, h3, h4.below hb⟩
theorem IsD.row {row : Option Nat} (h : IsD w g old made b e) (hg : w.grownBy w' row) (hne : row ≠ some g) (hB : ∀ g, row = some g → ∃ t cs, Blk w g t cs ∧ 5 ≠ t) : IsD w' g old made b e := by
  obtain ⟨A, c, h1, h2, h3, h4⟩ := h
  exact ⟨A, c, h1.grown hg (fun h => hne h.symm), h2, h3, h4.row hg hB⟩
end
theorem dec_ne : (5 : TypeId) ≠ 95 := by decide
theorem decop_ne : (40 : TypeId) ≠ 95 := by decide
set_option maxHeartbeats 1000000 in
theorem new_calls (old : Int) (w : World) : Calls Tryd.prog 23 #[.int .i64 old] w fun e w' => ∃ g, e = .returned (.pointer (some ⟨g, 0, none⟩)) ∧ w.heap.size ≤ g ∧ IsD w' g old 0 [] 0 ∧ Below w.heap.size w w' := by
  go_enter Tryd.func23, Tryd.ntmps23
  go_wp2
  go_ret
  exact ⟨w.heap.size, rfl, Nat.le_refl _, ⟨none, 0, heap_alloc_new _ _, by simp, by omega, RT.nil⟩, (Below.refl _ _).alloc (Nat.le_refl _) _⟩
set_option maxHeartbeats 1000000 in
theorem made_calls {w : World} {g : Nat} {old made : Int} {b : List UInt8} {e : Int} (h : IsD w g old made b e) : Calls Tryd.prog 50 #[.pointer (some ⟨g, 0, none⟩)] w fun e w' => e = .returned (.int .i64 made) ∧ w = w' := by
  obtain ⟨A, c, h1, _⟩ := h
  have hc : w.cell? ⟨g, 1, none⟩ = some (.int .i64 made) := by rw [Blk.cell h1]; rfl
  clear h1
  go_enter Tryd.func50, Tryd.ntmps50
  go_wp2
  go_ret
  exact ⟨rfl, rfl⟩
set_option maxHeartbeats 1000000 in
theorem rest_calls {w : World} {g : Nat} {old made : Int} {b : List UInt8} {e : Int} (h : IsD w g old made b e) : Calls Tryd.prog 51 #[.pointer (some ⟨g, 0, none⟩)] w fun e w' => e = .returned (.int .i64 (b.length : Int)) ∧ w = w' := by
  obtain ⟨A, c, h1, h2, h3, _⟩ := h
  have hc : w.cell? ⟨g, 2, none⟩ = some (.slice A b.length c) := by rw [Blk.cell h1]; rfl
  clear h1
  go_enter Tryd.func51, Tryd.ntmps51
  go_wp2
  go_ret
  exact ⟨rfl, rfl⟩
end Dl
end Go.Proofs.YtiofkhjpknfkgaaDoor
/- Whether operations are the same, or few and small; how many bytes are copied; two of them. -/
namespace Go.Proofs.YtiofkhjpknfkgaaDoor
namespace Dl
open Go.RowKit Ba Tm Dm Os_
set_option linter.unusedVariables false
/-- two texts as they are compared -/
theorem S_eq (a b : List UInt8) : (Ba.S a = Ba.S b) ↔ a = b := ⟨fun h => by have := congrArg (fun s => s.data.toList) h; simpa [Ba.S] using this, fun h => by rw [h]⟩

end Dl
end Go.Proofs.YtiofkhjpknfkgaaDoor
/- When two operations are the same, to the program and to the document. -/
namespace Go.Proofs.YtiofkhjpknfkgaaDoor
namespace Dl
open Go.RowKit Ba Tm Dm Os_
set_option linter.unusedVariables false
set_option maxHeartbeats 4000000 in
theorem sameop_calls (c1 : Bool) (p1 n1 : Int) (d1 : List UInt8) (D1 : Option Addr) (e1 : Nat) (c2 : Bool) (p2 n2 : Int) (d2 : List UInt8) (D2 : Option Addr) (e2 : Nat) (w : World) (r1 : ReadB w w.heap.size D1 d1) (r2 : ReadB w w.heap.size D2 d2) :
    Calls Tryd.prog 29 #[.agg #[.bool c1, .int .i64 p1, .int .i64 n1, .slice D1 d1.length e1], .agg #[.bool c2, .int .i64 p2, .int .i64 n2, .slice D2 d2.length e2]] w fun e w' => e = .returned (.bool (sameO ⟨c1, p1, n1, d1⟩ ⟨c2, p2, n2, d2⟩)) ∧ Below w.heap.size w w' := by
  have hb := ((Below.refl w.heap.size w).alloc (Nat.le_refl _) (.cells #[.bool c1, .int .i64 p1, .int .i64 n1, .slice D1 d1.length e1] 40)).alloc (by simp) (.cells #[.bool c2, .int .i64 p2, .int .i64 n2, .slice D2 d2.length e2] 40)
  have hs1 := strof_dl ((w.alloc (.cells #[.bool c1, .int .i64 p1, .int .i64 n1, .slice D1 d1.length e1] 40)).alloc (.cells #[.bool c2, .int .i64 p2, .int .i64 n2, .slice D2 d2.length e2] 40)) w.heap.size D1 e1 d1 (r1.below hb)
  have hs2 := strof_dl ((w.alloc (.cells #[.bool c1, .int .i64 p1, .int .i64 n1, .slice D1 d1.length e1] 40)).alloc (.cells #[.bool c2, .int .i64 p2, .int .i64 n2, .slice D2 d2.length e2] 40)) w.heap.size D2 e2 d2 (r2.below hb)
  have HB := Lib.hid hb
  clear hb r1 r2
  by_cases h0 : c1 = c2
  · by_cases h1 : p1 = p2
    · by_cases h2 : n1 = n2
      · by_cases h3 : d1 = d2
        · have hr : sameO ⟨c1, p1, n1, d1⟩ ⟨c2, p2, n2, d2⟩ = true := by simp [sameO, h0, h1, h2, h3]
          rw [hr]
          clear hr
          have t0 : (c1 == c2) = true := by simpa using h0
          have t1 : (p1 == p2) = true := by simpa using h1
          have t2 : (n1 == n2) = true := by simpa using h2
          have t3 : (d1 == d2) = true := by simpa using h3
          clear h0
          clear h1
          clear h2
          clear h3
          go_enter Tryd.func29, Tryd.ntmps29
          go_wp2_with fail
          go_ret
          exact ⟨by simp [*], HB.out⟩
        · have hr : sameO ⟨c1, p1, n1, d1⟩ ⟨c2, p2, n2, d2⟩ = false := by simp [sameO, h0, h1, h2, h3]
          rw [hr]
          clear hr
          have t3 : (d1 == d2) = false := by simpa using h3
          have t0 : (c1 == c2) = true := by simpa using h0
          have t1 : (p1 == p2) = true := by simpa using h1
          have t2 : (n1 == n2) = true := by simpa using h2
          clear h0
          clear h1
          clear h2
          clear h3
          go_enter Tryd.func29, Tryd.ntmps29
          go_wp2_with fail
          go_ret
          exact ⟨by simp [*], HB.out⟩
      · have hr : sameO ⟨c1, p1, n1, d1⟩ ⟨c2, p2, n2, d2⟩ = false := by simp [sameO, h0, h1, h2]
        rw [hr]
        clear hr
        have t2 : (n1 == n2) = false := by simpa using h2
        have t0 : (c1 == c2) = true := by simpa using h0
        have t1 : (p1 == p2) = true := by simpa using h1
        clear h0
        clear h1
        clear h2
        go_enter Tryd.func29, Tryd.ntmps29
        go_wp2_with fail
        go_ret
        exact ⟨by simp [*], HB.out⟩
    · have hr : sameO ⟨c1, p1, n1, d1⟩ ⟨c2, p2, n2, d2⟩ = false := by simp [sameO, h0, h1]
      rw [hr]
      clear hr
      have t1 : (p1 == p2) = false := by simpa using h1
      have t0 : (c1 == c2) = true := by simpa using h0
      clear h0
      clear h1
      go_enter Tryd.func29, Tryd.ntmps29
      go_wp2_with fail
      go_ret
      exact ⟨by simp [*], HB.out⟩
  · have hr : sameO ⟨c1, p1, n1, d1⟩ ⟨c2, p2, n2, d2⟩ = false := by simp [sameO, h0]
    rw [hr]
    clear hr
    have t0 : (c1 == c2) = false := by simpa using h0
    clear h0
    go_enter Tryd.func29, Tryd.ntmps29
    go_wp2_with fail
    go_ret
    exact ⟨by simp [*], HB.out⟩
set_option maxHeartbeats 1000000 in
theorem equal_calls (d1 : List UInt8) (D1 : Option Addr) (e1 : Nat) (d2 : List UInt8) (D2 : Option Addr) (e2 B : Nat) (w : World) (r1 : ReadB w B D1 d1) (r2 : ReadB w B D2 d2) :
    Calls Tryd.prog 47 #[.slice D1 d1.length e1, .slice D2 d2.length e2] w fun e w' => e = .returned (.bool (d1 == d2)) ∧ w = w' := by
  have hs1 := strof_dl w B D1 e1 d1 r1
  have hs2 := strof_dl w B D2 e2 d2 r2
  clear r1 r2
  by_cases h : d1 = d2
  · have t : (d1 == d2) = true := by simpa using h
    rw [t]
    clear h
    go_enter Tryd.func47, Tryd.ntmps47
    go_wp2_with fail
    go_ret
    exact ⟨by simp [*], rfl⟩
  · have t : (d1 == d2) = false := by simpa using h
    rw [t]
    clear h
    go_enter Tryd.func47, Tryd.ntmps47
    go_wp2_with fail
    go_ret
    exact ⟨by simp [*], rfl⟩
set_option maxHeartbeats 4000000 in
theorem samefn_calls (c1 : Bool) (p1 n1 : Int) (d1 : List UInt8) (D1 : Option Addr) (e1 : Nat) (c2 : Bool) (p2 n2 : Int) (d2 : List UInt8) (D2 : Option Addr) (e2 : Nat) (w : World) (r1 : ReadB w w.heap.size D1 d1) (r2 : ReadB w w.heap.size D2 d2) :
    Calls Tryd.prog 46 #[.agg #[.bool c1, .int .i64 p1, .int .i64 n1, .slice D1 d1.length e1], .agg #[.bool c2, .int .i64 p2, .int .i64 n2, .slice D2 d2.length e2]] w fun e w' => e = .returned (.bool (sameO ⟨c1, p1, n1, d1⟩ ⟨c2, p2, n2, d2⟩)) ∧ Below w.heap.size w w' := by
  have hb := ((Below.refl w.heap.size w).alloc (Nat.le_refl _) (.cells #[.bool c1, .int .i64 p1, .int .i64 n1, .slice D1 d1.length e1] 40)).alloc (by simp) (.cells #[.bool c2, .int .i64 p2, .int .i64 n2, .slice D2 d2.length e2] 40)
  have he := equal_calls d1 D1 e1 d2 D2 e2 w.heap.size ((w.alloc (.cells #[.bool c1, .int .i64 p1, .int .i64 n1, .slice D1 d1.length e1] 40)).alloc (.cells #[.bool c2, .int .i64 p2, .int .i64 n2, .slice D2 d2.length e2] 40)) (r1.below hb) (r2.below hb)
  have HB := Lib.hid hb
  have HE := Lib.hid he
  clear hb he r1 r2
  by_cases h0 : c1 = c2
  · by_cases h1 : p1 = p2
    · by_cases h2 : n1 = n2
      · by_cases h3 : d1 = d2
        · have hr : sameO ⟨c1, p1, n1, d1⟩ ⟨c2, p2, n2, d2⟩ = true := by simp [sameO, h0, h1, h2, h3]
          rw [hr]
          clear hr
          have t0 : (c1 == c2) = true := by simpa using h0
          have t1 : (p1 == p2) = true := by simpa using h1
          have t2 : (n1 == n2) = true := by simpa using h2
          have t3 : (d1 == d2) = true := by simpa using h3
          clear h0
          clear h1
          clear h2
          clear h3
          go_enter Tryd.func46, Tryd.ntmps46
          go_wp2_with fail
          refine Calls.mono HE.out ?_
          rintro e9 w9 ⟨rfl, rfl⟩
          go_wp2_with fail
          go_ret
          exact ⟨by simp [*], HB.out⟩
        · have hr : sameO ⟨c1, p1, n1, d1⟩ ⟨c2, p2, n2, d2⟩ = false := by simp [sameO, h0, h1, h2, h3]
          rw [hr]
          clear hr
          have t3 : (d1 == d2) = false := by simpa using h3
          have t0 : (c1 == c2) = true := by simpa using h0
          have t1 : (p1 == p2) = true := by simpa using h1
          have t2 : (n1 == n2) = true := by simpa using h2
          clear h0
          clear h1
          clear h2
          clear h3
          go_enter Tryd.func46, Tryd.ntmps46
          go_wp2_with fail
          refine Calls.mono HE.out ?_
          rintro e9 w9 ⟨rfl, rfl⟩
          go_wp2_with fail
          go_ret
          exact ⟨by simp [*], HB.out⟩
      · have hr : sameO ⟨c1, p1, n1, d1⟩ ⟨c2, p2, n2, d2⟩ = false := by simp [sameO, h0, h1, h2]
        rw [hr]
        clear hr
        have t2 : (n1 == n2) = false := by simpa using h2
        have t0 : (c1 == c2) = true := by simpa using h0
        have t1 : (p1 == p2) = true := by simpa using h1
        clear h0
        clear h1
        clear h2
        go_enter Tryd.func46, Tryd.ntmps46
        go_wp2_with fail
        go_ret
        exact ⟨by simp [*], HB.out⟩
    · have hr : sameO ⟨c1, p1, n1, d1⟩ ⟨c2, p2, n2, d2⟩ = false := by simp [sameO, h0, h1]
      rw [hr]
      clear hr
      have t1 : (p1 == p2) = false := by simpa using h1
      have t0 : (c1 == c2) = true := by simpa using h0
      clear h0
      clear h1
      go_enter Tryd.func46, Tryd.ntmps46
      go_wp2_with fail
      go_ret
      exact ⟨by simp [*], HB.out⟩
  · have hr : sameO ⟨c1, p1, n1, d1⟩ ⟨c2, p2, n2, d2⟩ = false := by simp [sameO, h0]
    rw [hr]
    clear hr
    have t0 : (c1 == c2) = false := by simpa using h0
    clear h0
    go_enter Tryd.func46, Tryd.ntmps46
    go_wp2_with fail
    go_ret
    exact ⟨by simp [*], HB.out⟩
end Dl
end Go.Proofs.YtiofkhjpknfkgaaDoor
/- Whether two lists of operations are the same, to the program and to the document. -/
namespace Go.Proofs.YtiofkhjpknfkgaaDoor
namespace Dl
open Go.RowKit Ba Tm Dm Os_
set_option linter.unusedVariables false
set_option maxRecDepth 100000 in
set_option maxHeartbeats 4000000 in
theorem same_calls (L M : List Ow) (A : Option Addr) (n c : Nat) (A' : Option Addr) (n' c' : Nat) (hn : n = L.length) (hn' : n' = M.length) (hl : n ≤ 9223372036854775807) (hl' : n' ≤ 9223372036854775807) (w : World) (h : ReadO w w.heap.size A L) (h' : ReadO w w.heap.size A' M) :
    Calls Tryd.prog 12 #[.slice A n c, .slice A' n' c'] w fun e w' => e = .returned (.bool (same (ops L) (ops M))) ∧ Below w.heap.size w w' := by
  have hol : (ops L).length = n := by rw [ops_len, hn]
  have hom : (ops M).length = n' := by rw [ops_len, hn']
  by_cases hne : n = n'
  · have hr : same (ops L) (ops M) = sameK (ops L) (ops M) := by unfold same; rw [if_pos (by omega)]
    have hst := fun k h1 h2 => sameK_step (ops L) (ops M) k h1 h2
    have Hn := Lib.hid hn
    have Hn' := Lib.hid (hne.trans hn')
    have Hh := Lib.hid h
    have Hh' := Lib.hid h'
    have HR := Lib.hid hr
    have Hst := Lib.hid hst
    have Hol := Lib.hid hol
    have Hom := Lib.hid hom
    clear hn hn' hr hst hol hom h h'
    subst hne
    go_enter Tryd.func12, Tryd.ntmps12
    go_wp2_with fail
    go_loopg [5] n (fun q vi wr => ∃ k : Nat, k ≤ n ∧ q = n - k ∧ vi = .int .i64 (k : Int) ∧ sameK ((ops L).drop k) ((ops M).drop k) = sameK (ops L) (ops M) ∧ Below w.heap.size w wr)
    case atStart => exact ⟨0, by omega, rfl, rfl, rfl, Below.refl _ _⟩
    case round =>
      obtain ⟨k, hk, hq, rfl, he, hb⟩ := hrel
      have Hq := Lib.hid hq
      have He := Lib.hid he
      have HB := Lib.hid hb
      clear hq he hb
      by_cases hkn : k < n
      · have hk1 : k < L.length := by rw [← Hn.out]; exact hkn
        obtain ⟨b1, o1, c1, p1, n1, d1, D1, e1, rfl, hbB1, hx1, hc1, -, -, -, -, r1⟩ := ReadO.op Hh.out hk1
        have hat1 := ops_at L k hk1
        rw [hx1] at hat1
        have HC1 : Hid (wr.rangeAt b1 (o1 + k * 4) [.bool c1, .int .i64 p1, .int .i64 n1, .slice D1 d1.length e1]) := Lib.hid fun jj v hv => (HB.out.cell (p := ⟨b1, o1 + k * 4 + jj, none⟩) hbB1).trans (hc1 jj v hv)
        have hk2 : k < M.length := by rw [← Hn'.out]; exact hkn
        obtain ⟨b2, o2, c2, p2, n2, d2, D2, e2, rfl, hbB2, hx2, hc2, -, -, -, -, r2⟩ := ReadO.op Hh'.out hk2
        have hat2 := ops_at M k hk2
        rw [hx2] at hat2
        have HC2 : Hid (wr.rangeAt b2 (o2 + k * 4) [.bool c2, .int .i64 p2, .int .i64 n2, .slice D2 d2.length e2]) := Lib.hid fun jj v hv => (HB.out.cell (p := ⟨b2, o2 + k * 4 + jj, none⟩) hbB2).trans (hc2 jj v hv)
        have hs := Hst.out k (by rw [Hol.out]; exact hkn) (by rw [Hom.out]; exact hkn)
        rw [hat1, hat2] at hs
        have Hs := Lib.hid hs
        have hE := fun W (hW : Below wr.heap.size wr W) => sameop_calls c1 p1 n1 d1 D1 e1 c2 p2 n2 d2 D2 e2 W ((r1.below (HB.out.trans (hW.mono HB.out.size))).more (HB.out.trans (hW.mono HB.out.size)).size) ((r2.below (HB.out.trans (hW.mono HB.out.size))).more (HB.out.trans (hW.mono HB.out.size)).size)
        have HE := Lib.hid hE
        clear hx1 hx2 hc1 hc2 hat1 hat2 hs r1 r2 hE
        have HC1d : Hid (wr.drew.rangeAt b1 (o1 + k * 4) [.bool c1, .int .i64 p1, .int .i64 n1, .slice D1 d1.length e1]) := HC1
        have HC2d : Hid (wr.drew.rangeAt b2 (o2 + k * 4) [.bool c2, .int .i64 p2, .int .i64 n2, .slice D2 d2.length e2]) := HC2
        have Hg1 : Hid (b1 < wr.drew.heap.size) := Lib.hid (Nat.lt_of_lt_of_le hbB1 HB.out.size)
        have Hg2 : Hid (b2 < wr.drew.heap.size) := Lib.hid (Nat.lt_of_lt_of_le hbB2 HB.out.size)
        go_wp2_with fail
        refine CanB.region 1000 (.op 0 2 (.op 1 2 (.op 2 2 (.op 3 1 (.op 4 2 (.op 5 2 (.op 6 2 (.op 7 1 (.op 8 0 (.op 9 2 (.nil))))))))))) (by kernel_rfl) (by kernel_rfl) ?_
        have hW : Below wr.heap.size wr wr.drew := (Below.refl _ _).drew
        repeat (first | (refine CanT.skip rfl ?_ (fun K hK => ?_); (focus (go_simp; done)); go_simp; refine hK _ ?_; clear hK K) | (refine CanT.pur rfl ?_ ?_; (focus (go_simp; done)); refine ⟨?_, ?_, ?_⟩; rotate_left; (focus (intro w'; go_simp; rfl)); (focus (intro K hK; go_simp; refine hK _ ?_; clear hK K))) | (refine CanB.row rfl ?_ 40 _ rfl b1 (o1 + k * 4) ([.bool c1, .int .i64 p1, .int .i64 n1, .slice D1 d1.length e1]) rfl HC1d.out Hg1.out _ Tryd.underlying40 rfl (by kernel_rfl) (fun K hK => ?_); (focus (go_simp; done)); go_simp; refine hK _ ?_; clear hK K) | (refine CanB.row rfl ?_ 40 _ rfl b2 (o2 + k * 4) ([.bool c2, .int .i64 p2, .int .i64 n2, .slice D2 d2.length e2]) rfl HC2d.out Hg2.out _ Tryd.underlying40 rfl (by kernel_rfl) (fun K hK => ?_); (focus (go_simp; done)); go_simp; refine hK _ ?_; clear hK K))
        refine CanT.imp rfl (fun K hK => ?_)
        go_simp
        refine Calls.mono (HE.out _ hW) ?_
        rintro e9 w9 ⟨rfl, hb9⟩
        have HB9 := Lib.hid (HB.out.trans ((hW.trans (hb9.mono hW.size)).mono HB.out.size))
        obtain ⟨t, ht⟩ : ∃ t, t = sameO ⟨c1, p1, n1, d1⟩ ⟨c2, p2, n2, d2⟩ := ⟨_, rfl⟩
        rw [← ht] at Hs ⊢
        clear ht hW HC1 HC2 HE
        cases t with
        | true =>
          have hnx : sameK ((ops L).drop (k + 1)) ((ops M).drop (k + 1)) = sameK (ops L) (ops M) := by rw [← He.out, Hs.out]; rfl
          have Hnx := Lib.hid hnx
          clear hnx
          go_simp
          refine hK.out _ _ hb9 ?_
          clear hK K hb9
          repeat (first | (refine CanT.skip rfl ?_ (fun K hK => ?_); (focus (go_simp; done)); go_simp; refine hK _ ?_; clear hK K) | (refine CanT.pur rfl ?_ ?_; (focus (go_simp; done)); refine ⟨?_, ?_, ?_⟩; rotate_left; (focus (intro w'; go_simp; rfl)); (focus (intro K hK; go_simp; refine hK _ ?_; clear hK K))))
          refine CanT.done ?_
          go_wp2_with fail
          go_roundg (n - (k + 1))
          case rel => exact ⟨k + 1, by omega, rfl, rfl, Hnx.out, HB9.out⟩
          case measure => have := Hq.out; omega
        | false =>
          have hr2 : same (ops L) (ops M) = false := by rw [HR.out, ← He.out, Hs.out]; rfl
          have Hr2 := Lib.hid hr2
          clear hr2
          go_simp
          refine hK.out _ _ hb9 ?_
          clear hK K hb9
          repeat (first | (refine CanT.skip rfl ?_ (fun K hK => ?_); (focus (go_simp; done)); go_simp; refine hK _ ?_; clear hK K) | (refine CanT.pur rfl ?_ ?_; (focus (go_simp; done)); refine ⟨?_, ?_, ?_⟩; rotate_left; (focus (intro w'; go_simp; rfl)); (focus (intro K hK; go_simp; refine hK _ ?_; clear hK K))))
          refine CanT.done ?_
          go_wp2_with fail
          go_ret
          exact ⟨by rw [Hr2.out]; rfl, HB9.out⟩
      · have hend := sameK_nil (ops L) (ops M) k (by rw [Hol.out]; omega)
        have HE := Lib.hid hend
        clear hend
        go_wp2_with fail
        go_ret
        exact ⟨by rw [HR.out, ← He.out, HE.out]; rfl, HB.out⟩
  · have hr : same (ops L) (ops M) = false := by unfold same; rw [if_neg (by omega)]
    rw [hr]
    have t1 : ((n : Int) == (n' : Int)) = false := by
      have : ¬ (n : Int) = (n' : Int) := by omega
      simpa using this
    have t2 : ¬ (n : Int) = (n' : Int) := by omega
    clear hr hol hom hn hn' h h'
    go_enter Tryd.func12, Tryd.ntmps12
    go_wp2_with fail
    go_ret
    exact ⟨rfl, Below.refl _ _⟩
set_option maxRecDepth 100000 in
set_option maxHeartbeats 4000000 in
theorem eqfn_calls (L M : List Ow) (A : Option Addr) (n c : Nat) (A' : Option Addr) (n' c' : Nat) (hn : n = L.length) (hn' : n' = M.length) (hl : n ≤ 9223372036854775807) (hl' : n' ≤ 9223372036854775807) (w : World) (h : ReadO w w.heap.size A L) (h' : ReadO w w.heap.size A' M) :
    Calls Tryd.prog 45 #[.slice A n c, .slice A' n' c', .func (.func 46) #[] #[]] w fun e w' => e = .returned (.bool (same (ops L) (ops M))) ∧ Below w.heap.size w w' := by
  have hol : (ops L).length = n := by rw [ops_len, hn]
  have hom : (ops M).length = n' := by rw [ops_len, hn']
  by_cases hne : n = n'
  · have hr : same (ops L) (ops M) = sameK (ops L) (ops M) := by unfold same; rw [if_pos (by omega)]
    have hst := fun k h1 h2 => sameK_step (ops L) (ops M) k h1 h2
    have Hn := Lib.hid hn
    have Hn' := Lib.hid (hne.trans hn')
    have Hh := Lib.hid h
    have Hh' := Lib.hid h'
    have HR := Lib.hid hr
    have Hst := Lib.hid hst
    have Hol := Lib.hid hol
    have Hom := Lib.hid hom
    clear hn hn' hr hst hol hom h h'
    subst hne
    go_enter Tryd.func45, Tryd.ntmps45
    go_wp2_with fail
    go_loopg [7, 17] n (fun q _v7 vi wr => ∃ k : Nat, k ≤ n ∧ q = n - k ∧ vi = .int .i64 (k : Int) ∧ sameK ((ops L).drop k) ((ops M).drop k) = sameK (ops L) (ops M) ∧ Below w.heap.size w wr)
    case atStart => exact ⟨0, by omega, rfl, rfl, rfl, Below.refl _ _⟩
    case round =>
      obtain ⟨k, hk, hq, rfl, he, hb⟩ := hrel
      have Hq := Lib.hid hq
      have He := Lib.hid he
      have HB := Lib.hid hb
      clear hq he hb
      by_cases hkn : k < n
      · have hk1 : k < L.length := by rw [← Hn.out]; exact hkn
        obtain ⟨b1, o1, c1, p1, n1, d1, D1, e1, rfl, hbB1, hx1, hc1, -, -, -, -, r1⟩ := ReadO.op Hh.out hk1
        have hat1 := ops_at L k hk1
        rw [hx1] at hat1
        have HC1 : Hid (wr.rangeAt b1 (o1 + k * 4) [.bool c1, .int .i64 p1, .int .i64 n1, .slice D1 d1.length e1]) := Lib.hid fun jj v hv => (HB.out.cell (p := ⟨b1, o1 + k * 4 + jj, none⟩) hbB1).trans (hc1 jj v hv)
        have hk2 : k < M.length := by rw [← Hn'.out]; exact hkn
        obtain ⟨b2, o2, c2, p2, n2, d2, D2, e2, rfl, hbB2, hx2, hc2, -, -, -, -, r2⟩ := ReadO.op Hh'.out hk2
        have hat2 := ops_at M k hk2
        rw [hx2] at hat2
        have HC2 : Hid (wr.rangeAt b2 (o2 + k * 4) [.bool c2, .int .i64 p2, .int .i64 n2, .slice D2 d2.length e2]) := Lib.hid fun jj v hv => (HB.out.cell (p := ⟨b2, o2 + k * 4 + jj, none⟩) hbB2).trans (hc2 jj v hv)
        have hs := Hst.out k (by rw [Hol.out]; exact hkn) (by rw [Hom.out]; exact hkn)
        rw [hat1, hat2] at hs
        have Hs := Lib.hid hs
        have hE := fun W (hW : Below wr.heap.size wr W) => samefn_calls c1 p1 n1 d1 D1 e1 c2 p2 n2 d2 D2 e2 W ((r1.below (HB.out.trans (hW.mono HB.out.size))).more (HB.out.trans (hW.mono HB.out.size)).size) ((r2.below (HB.out.trans (hW.mono HB.out.size))).more (HB.out.trans (hW.mono HB.out.size)).size)
        have HE := Lib.hid hE
        have HC2w : Hid ((wr.alloc (.cells #[.bool c1, .int .i64 p1, .int .i64 n1, .slice D1 d1.length e1] 40)).rangeAt b2 (o2 + k * 4) [.bool c2, .int .i64 p2, .int .i64 n2, .slice D2 d2.length e2]) := Lib.hid fun jj v hv => ((Below.refl wr.heap.size wr).alloc (Nat.le_refl _) (.cells #[.bool c1, .int .i64 p1, .int .i64 n1, .slice D1 d1.length e1] 40) |>.cell (p := ⟨b2, o2 + k * 4 + jj, none⟩) (Nat.lt_of_lt_of_le hbB2 HB.out.size)).trans (HC2.out jj v hv)
        clear hx1 hx2 hc1 hc2 hat1 hat2 hs r1 r2 hE
        go_wp2_with (first | (refine wpList_load_mid rfl 40 (.tmp 20) rfl b1 (o1 + k * 4) rfl [.bool c1, .int .i64 p1, .int .i64 n1, .slice D1 d1.length e1] _ HC1.out Tryd.underlying40 rfl (by kernel_rfl) ?_) | (refine wpList_load_mid rfl 40 (.tmp 24) rfl b2 (o2 + k * 4) rfl [.bool c2, .int .i64 p2, .int .i64 n2, .slice D2 d2.length e2] _ HC2w.out Tryd.underlying40 rfl (by kernel_rfl) ?_))
        have hW : Below wr.heap.size wr ((wr.alloc (.cells #[.bool c1, .int .i64 p1, .int .i64 n1, .slice D1 d1.length e1] 40)).alloc (.cells #[.bool c2, .int .i64 p2, .int .i64 n2, .slice D2 d2.length e2] 40)) := ((Below.refl _ _).alloc (Nat.le_refl _) _).alloc (by simp) _
        refine Calls.mono (HE.out _ hW) ?_
        rintro e9 w9 ⟨rfl, hb9⟩
        have HB9 := Lib.hid (HB.out.trans ((hW.trans (hb9.mono hW.size)).mono HB.out.size))
        obtain ⟨t, ht⟩ : ∃ t, t = sameO ⟨c1, p1, n1, d1⟩ ⟨c2, p2, n2, d2⟩ := ⟨_, rfl⟩
        rw [← ht] at Hs ⊢
        clear ht hb9 hW HC1 HC2 HC2w HE
        cases t with
        | true =>
          have hnx : sameK ((ops L).drop (k + 1)) ((ops M).drop (k + 1)) = sameK (ops L) (ops M) := by rw [← He.out, Hs.out]; rfl
          have Hnx := Lib.hid hnx
          clear hnx
          go_wp2_with fail
          go_roundg (n - (k + 1))
          case rel => exact ⟨k + 1, by omega, rfl, rfl, Hnx.out, HB9.out⟩
          case measure => have := Hq.out; omega
        | false =>
          have hr2 : same (ops L) (ops M) = false := by rw [HR.out, ← He.out, Hs.out]; rfl
          have Hr2 := Lib.hid hr2
          clear hr2
          go_wp2_with fail
          go_ret
          exact ⟨by rw [Hr2.out]; rfl, HB9.out⟩
      · have hend := sameK_nil (ops L) (ops M) k (by rw [Hol.out]; omega)
        have HE := Lib.hid hend
        clear hend
        go_wp2_with fail
        go_ret
        exact ⟨by rw [HR.out, ← He.out, HE.out]; rfl, HB.out⟩
  · have hr : same (ops L) (ops M) = false := by unfold same; rw [if_neg (by omega)]
    rw [hr]
    have t1 : ((n : Int) == (n' : Int)) = false := by
      have : ¬ (n : Int) = (n' : Int) := by omega
      simpa using this
    have t2 : ¬ (n : Int) = (n' : Int) := by omega
    clear hr hol hom hn hn' h h'
    go_enter Tryd.func45, Tryd.ntmps45
    go_wp2_with fail
    go_ret
    exact ⟨rfl, Below.refl _ _⟩
end Dl
end Go.Proofs.YtiofkhjpknfkgaaDoor
/- Sameness to the program; how many bytes are copied, and how many are not. -/
namespace Go.Proofs.YtiofkhjpknfkgaaDoor
namespace Dl
open Go.RowKit Ba Tm Dm Os_
set_option linter.unusedVariables false
set_option maxHeartbeats 1000000 in
theorem msame_calls (L M : List Ow) (A : Option Addr) (n c : Nat) (A' : Option Addr) (n' c' : Nat) (hn : n = L.length) (hn' : n' = M.length) (hl : n ≤ 9223372036854775807) (hl' : n' ≤ 9223372036854775807) (w : World) (h : ReadO w w.heap.size A L) (h' : ReadO w w.heap.size A' M) :
    Calls Tryd.prog 19 #[.slice A n c, .slice A' n' c'] w fun e w' => e = .returned (.bool (same (ops L) (ops M))) ∧ Below w.heap.size w w' := by
  have he := eqfn_calls L M A n c A' n' c' hn hn' hl hl' w h h'
  have HE := Lib.hid he
  clear hn hn' h h' he
  go_enter Tryd.func19, Tryd.ntmps19
  go_wp2_with fail
  refine Calls.mono HE.out ?_
  rintro e9 w9 ⟨rfl, hb9⟩
  go_wp2_with fail
  go_ret
  exact ⟨rfl, hb9⟩
theorem copied_take (l : List O) (k : Nat) (h : k < l.length) : copied (l.take (k + 1)) = copied (l.take k) + copied [at_ l k] := by rw [take_at l k h, copied_append]
set_option maxRecDepth 100000 in
set_option maxHeartbeats 4000000 in
theorem copied_calls (L : List Ow) (A : Option Addr) (n c : Nat) (hn : n = L.length) (hl : n ≤ 9223372036854775807) (hbd : ∀ k, 0 ≤ copied ((ops L).take k) ∧ copied ((ops L).take k) ≤ 4611686018427387904) (w : World) (h : ReadO w w.heap.size A L) :
    Calls Tryd.prog 17 #[.slice A n c] w fun e w' => e = .returned (.int .i64 (copied (ops L))) ∧ Below w.heap.size w w' := by
  have hol : (ops L).length = n := by rw [ops_len, hn]
  have hst := fun k h => copied_take (ops L) k h
  have Hst := Lib.hid hst
  have Hh := Lib.hid h
  have Hol := Lib.hid hol
  have Hn := Lib.hid hn
  have Hbd := Lib.hid hbd
  clear hst h hol hn hbd
  go_enter Tryd.func17, Tryd.ntmps17
  go_wp2_with fail
  go_loopg [3, 8] n (fun q v3 vi wr => ∃ k : Nat, k ≤ n ∧ q = n - k ∧ vi = .int .i64 (k : Int) ∧ v3 = .int .i64 (copied ((ops L).take k)) ∧ Below w.heap.size w wr)
  case atStart => exact ⟨0, by omega, rfl, rfl, rfl, Below.refl _ _⟩
  case round =>
    obtain ⟨k, hk, hq, rfl, rfl, hb⟩ := hrel
    have Hq := Lib.hid hq
    have HB := Lib.hid hb
    clear hq hb
    by_cases hkn : k < n
    · have hkl : k < L.length := by rw [← Hn.out]; exact hkn
      obtain ⟨b, o, x1, x2, x3, x4, D, e, rfl, hbB, hx, hc, k1, k2, k3, k4, k5⟩ := ReadO.op Hh.out hkl
      have hat := ops_at L k hkl
      rw [hx] at hat
      have HC : Hid (wr.rangeAt b (o + k * 4) [.bool x1, .int .i64 x2, .int .i64 x3, .slice D x4.length e]) := Lib.hid fun jj v hv => (HB.out.cell (p := ⟨b, o + k * 4 + jj, none⟩) hbB).trans (hc jj v hv)
      have hs := Hst.out k (by rw [Hol.out]; exact hkn)
      rw [hat] at hs
      cases x1 with
      | true =>
        have hs2 : copied ((ops L).take (k + 1)) = copied ((ops L).take k) + x3 := by rw [hs]; simp [copied]
        have hb1 := Hbd.out (k + 1)
        rw [hs2] at hb1
        have hb0 := Hbd.out k
        generalize hz : copied ((ops L).take k) = z at *
        have Hs := Lib.hid hs2
        clear hx hc k5 hat hs hs2 hz
        go_wp2_with (refine wpList_load_mid rfl 40 (.tmp 10) rfl b (o + k * 4) rfl [.bool true, .int .i64 x2, .int .i64 x3, .slice D x4.length e] _ HC.out Tryd.underlying40 rfl (by kernel_rfl) ?_)
        go_roundg (n - (k + 1))
        case rel => exact ⟨k + 1, by omega, rfl, rfl, by rw [Hs.out], HB.out.alloc HB.out.size _⟩
        case measure => have := Hq.out; omega
      | false =>
        have hs2 : copied ((ops L).take (k + 1)) = copied ((ops L).take k) := by rw [hs]; simp [copied]
        have hb1 := Hbd.out (k + 1)
        rw [hs2] at hb1
        have hb0 := Hbd.out k
        generalize hz : copied ((ops L).take k) = z at *
        have Hs := Lib.hid hs2
        clear hx hc k5 hat hs hs2 hz
        go_wp2_with (refine wpList_load_mid rfl 40 (.tmp 10) rfl b (o + k * 4) rfl [.bool false, .int .i64 x2, .int .i64 x3, .slice D x4.length e] _ HC.out Tryd.underlying40 rfl (by kernel_rfl) ?_)
        go_roundg (n - (k + 1))
        case rel => exact ⟨k + 1, by omega, rfl, rfl, by rw [Hs.out], HB.out.alloc HB.out.size _⟩
        case measure => have := Hq.out; omega
    · have hke : k = n := by omega
      have he : copied ((ops L).take k) = copied (ops L) := by rw [List.take_of_length_le (by rw [Hol.out]; omega)]
      have He := Lib.hid he
      clear he
      go_wp2_with fail
      go_ret
      exact ⟨by rw [← He.out]; rfl, HB.out⟩
theorem literal_take (l : List O) (k : Nat) (h : k < l.length) : literal (l.take (k + 1)) = literal (l.take k) + literal [at_ l k] := by rw [take_at l k h, literal_append]
set_option maxRecDepth 100000 in
set_option maxHeartbeats 4000000 in
theorem literal_calls (L : List Ow) (A : Option Addr) (n c : Nat) (hn : n = L.length) (hl : n ≤ 9223372036854775807) (hbd : ∀ k, 0 ≤ literal ((ops L).take k) ∧ literal ((ops L).take k) ≤ 4611686018427387904) (w : World) (h : ReadO w w.heap.size A L) :
    Calls Tryd.prog 18 #[.slice A n c] w fun e w' => e = .returned (.int .i64 (literal (ops L))) ∧ Below w.heap.size w w' := by
  have hol : (ops L).length = n := by rw [ops_len, hn]
  have hst := fun k h => literal_take (ops L) k h
  have Hst := Lib.hid hst
  have Hh := Lib.hid h
  have Hol := Lib.hid hol
  have Hn := Lib.hid hn
  have Hbd := Lib.hid hbd
  clear hst h hol hn hbd
  go_enter Tryd.func18, Tryd.ntmps18
  go_wp2_with fail
  go_loopg [3, 8] n (fun q v3 vi wr => ∃ k : Nat, k ≤ n ∧ q = n - k ∧ vi = .int .i64 (k : Int) ∧ v3 = .int .i64 (literal ((ops L).take k)) ∧ Below w.heap.size w wr)
  case atStart => exact ⟨0, by omega, rfl, rfl, rfl, Below.refl _ _⟩
  case round =>
    obtain ⟨k, hk, hq, rfl, rfl, hb⟩ := hrel
    have Hq := Lib.hid hq
    have HB := Lib.hid hb
    clear hq hb
    by_cases hkn : k < n
    · have hkl : k < L.length := by rw [← Hn.out]; exact hkn
      obtain ⟨b, o, x1, x2, x3, x4, D, e, rfl, hbB, hx, hc, k1, k2, k3, k4, k5⟩ := ReadO.op Hh.out hkl
      have hat := ops_at L k hkl
      rw [hx] at hat
      have HC : Hid (wr.rangeAt b (o + k * 4) [.bool x1, .int .i64 x2, .int .i64 x3, .slice D x4.length e]) := Lib.hid fun jj v hv => (HB.out.cell (p := ⟨b, o + k * 4 + jj, none⟩) hbB).trans (hc jj v hv)
      have hs := Hst.out k (by rw [Hol.out]; exact hkn)
      rw [hat] at hs
      cases x1 with
      | true =>
        have hs2 : literal ((ops L).take (k + 1)) = literal ((ops L).take k) := by rw [hs]; simp [literal]
        have hb1 := Hbd.out (k + 1)
        rw [hs2] at hb1
        have hb0 := Hbd.out k
        generalize hz : literal ((ops L).take k) = z at *
        have Hs := Lib.hid hs2
        clear hx hc k5 hat hs hs2 hz
        go_wp2_with (refine wpList_load_mid rfl 40 (.tmp 10) rfl b (o + k * 4) rfl [.bool true, .int .i64 x2, .int .i64 x3, .slice D x4.length e] _ HC.out Tryd.underlying40 rfl (by kernel_rfl) ?_)
        go_roundg (n - (k + 1))
        case rel => exact ⟨k + 1, by omega, rfl, rfl, by rw [Hs.out], HB.out.alloc HB.out.size _⟩
        case measure => have := Hq.out; omega
      | false =>
        have hs2 : literal ((ops L).take (k + 1)) = literal ((ops L).take k) + (x4.length : Int) := by rw [hs]; simp [literal]
        have hb1 := Hbd.out (k + 1)
        rw [hs2] at hb1
        have hb0 := Hbd.out k
        generalize hz : literal ((ops L).take k) = z at *
        have Hs := Lib.hid hs2
        clear hx hc k5 hat hs hs2 hz
        go_wp2_with (refine wpList_load_mid rfl 40 (.tmp 10) rfl b (o + k * 4) rfl [.bool false, .int .i64 x2, .int .i64 x3, .slice D x4.length e] _ HC.out Tryd.underlying40 rfl (by kernel_rfl) ?_)
        go_roundg (n - (k + 1))
        case rel => exact ⟨k + 1, by omega, rfl, rfl, by rw [Hs.out], HB.out.alloc HB.out.size _⟩
        case measure => have := Hq.out; omega
    · have hke : k = n := by omega
      have he : literal ((ops L).take k) = literal (ops L) := by rw [List.take_of_length_le (by rw [Hol.out]; omega)]
      have He := Lib.hid he
      clear he
      go_wp2_with fail
      go_ret
      exact ⟨by rw [← He.out]; rfl, HB.out⟩
end Dl
end Go.Proofs.YtiofkhjpknfkgaaDoor

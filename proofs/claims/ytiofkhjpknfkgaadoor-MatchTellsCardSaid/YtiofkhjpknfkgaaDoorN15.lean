/- Copies and bytes together are just the new file: the walk of the statement. -/
import Derived.Test.YtiofkhjpknfkgaaDoorN01
import Derived.Test.YtiofkhjpknfkgaaDoorN02
import Derived.Test.YtiofkhjpknfkgaaDoorN03
import Derived.Test.YtiofkhjpknfkgaaDoorN04
import Derived.Test.YtiofkhjpknfkgaaDoorN05
import Derived.Test.YtiofkhjpknfkgaaDoorN06
import Derived.Test.YtiofkhjpknfkgaaDoorN07
import Derived.Test.YtiofkhjpknfkgaaDoorN08
import Derived.Test.YtiofkhjpknfkgaaDoorN09
import Derived.Test.YtiofkhjpknfkgaaDoorN10
import Derived.Test.YtiofkhjpknfkgaaDoorN11
import Derived.Test.YtiofkhjpknfkgaaDoorN12
import Derived.Test.YtiofkhjpknfkgaaDoorN13
import Derived.Test.YtiofkhjpknfkgaaDoorN14
namespace Go.Proofs.YtiofkhjpknfkgaaDoor
namespace Ms
open Go.RowKit Ba Tm Os_ Bk Ro Sm
set_option linter.unusedVariables false
theorem run_neH (H : List UInt8) (h : H.length = 32) (w : World) : (binOp .neq 42 (.agg (bvs H).toArray) (.agg (bvs H).toArray)).run Tryd.prog w = .ok (.bool false) w := by
  rw [run_neq_struct]
  have := Bk.run_eqB H H h h w
  rw [run_eql_struct] at this
  cases hh : (Op.equalIn 10000 42 (.agg (bvs H).toArray) (.agg (bvs H).toArray)).run Tryd.prog w with
  | ok r w1 =>
    rw [hh] at this
    simp only [Result.andThen_ok, Result.ok.injEq, Value.bool.injEq] at this
    obtain ⟨h1, h2⟩ := this
    simp only [Result.andThen_ok]
    rw [h1, h2, beq_self_eq_true]
    rfl
  | halt x w1 =>
    rw [hh] at this
    cases this
theorem run_ixo {P : Program} {E : TypeId} {i : TypeInfo} {sz by' : Nat} (t : TypeId) (ht : P.underlying t = some (.slice E)) (hi : IsRec P E i sz by') (hsz : 0 < sz) (g o k n c : Nat) (hk : k < n) (w : World) : (Instr.indexAt t (.slice (some ⟨g, o, none⟩) n c) (.int .i64 (k : Int))).run P w = .ok (.pointer (some ⟨g, o + k * sz, none⟩)) w := by
  rw [run_indexAt_slice w t ⟨g, o, none⟩ n c .i64 (k : Int) (by rw [elem_of ht]; exact ht), elem_of ht]
  have hs : (sizeOf E).run P w = .ok sz w := by simp [sizeOf, typeInfo, hi.1, hi.2.2.1]
  rw [if_pos (by omega), hs]
  simp only [Result.andThen_ok, Int.toNat_natCast]
  rw [add_lit_]
theorem strof_t (W : World) (B : Nat) (A : Option Addr) (c : Nat) (l : List UInt8) (n : Nat) (hn : n = l.length) (h : ReadB W B A l) : (convert 22 9 (.slice A n c)).run Tryd.prog W = .ok (.string (S l)) W := by
  subst hn
  exact run_strof W 22 5 Tryd.underlying22 Tryd.underlying5 A c B l h 9 Tryd.underlying9
theorem belowN {B : Nat} {a w : World} (h : Below B a w) (n : Nat) : Below B a (w.drewN n) := h.trans ⟨rfl, rfl, rfl, Nat.le_refl _, fun _ _ => rfl⟩
theorem beqS (l : List UInt8) : ((S l).toList == (S l).toList) = true := beq_self_eq_true _
set_option maxRecDepth 100000 in
set_option maxHeartbeats 16000000 in
theorem matchTells_calls (old : List UInt8) (A : Option Addr) (no c : Nat) (b : List UInt8) (A1 : Option Addr) (n c1 : Nat) (s : Int) (hno : no = old.length) (hn : n = b.length) (hc : no ≤ c) (hcm : c ≤ 9223372036854775807) (hc1 : n ≤ c1) (hcm1 : c1 ≤ 9223372036854775807) (hs : 0 ≤ s ∧ s < 256) (w : World) (htab : Tab w) (ho : ReadB w w.heap.size A old) (hr : ReadB w w.heap.size A1 b) :
    Calls Tryd.prog 5 #[.slice A no c, .slice A1 n c1, .int .u8 s] w fun e w' => e = .returned (.bool true) ∧ Below w.heap.size w w' := by
  have Htab := Lib.hid htab
  have Ho := Lib.hid ho
  have Hr := Lib.hid hr
  have Hn := Lib.hid hn
  have Hno := Lib.hid hno
  obtain ⟨q, hq, hq2⟩ : ∃ q : Nat, s.tmod 64 = (q : Int) ∧ q < 64 := ⟨(s.tmod 64).toNat, by rw [Int.tmod_eq_emod_of_nonneg hs.1]; omega, by rw [Int.tmod_eq_emod_of_nonneg hs.1]; omega⟩
  obtain ⟨z, hz⟩ : ∃ z, z = 1 + q := ⟨_, rfl⟩
  have hqz : (1 : Int) + (q : Int) = (z : Int) := by omega
  have hz1 : 1 ≤ z ∧ z ≤ 64 := by omega
  have hz2 : 1 ≤ z ∧ z ≤ 4096 := by omega
  have hwz : IntKind.i64.wrap (z : Int) = (z : Int) := by rw [IntKind.wrap_i64]; omega
  have Hz := Lib.hid hz
  clear hz htab ho hr hn hno
  by_cases h1 : 400 < no
  · have g1 : decide (400 < (no : Int)) = true := decide_eq_true (by omega)
    go_enter Tryd.func5, Tryd.ntmps5
    go_wp2_with (go_at_call 9; refine (awake_calls _ Htab.out).mono ?_; rintro e w5 ⟨rfl, hb5⟩)
    go_ret
    exact ⟨rfl, hb5⟩
  have g1 : decide (400 < (no : Int)) = false := decide_eq_false (by omega)
  by_cases h2 : 400 < n
  · have g2 : decide (400 < (n : Int)) = true := decide_eq_true (by omega)
    go_enter Tryd.func5, Tryd.ntmps5
    go_wp2_with (go_at_call 9; refine (awake_calls _ Htab.out).mono ?_; rintro e w5 ⟨rfl, hb5⟩)
    go_ret
    exact ⟨rfl, hb5⟩
  have g2 : decide (400 < (n : Int)) = false := decide_eq_false (by omega)
  obtain ⟨i0, hi0⟩ := isByte_of Cl.info5
  obtain ⟨iO, hiO⟩ := isOp
  have Hi := Lib.hid hiO
  have Hi0 := Lib.hid hi0
  have hix := index_calls old z A no c w Hno.out hz2 (by omega) hc hcm Ho.out Htab.out
  have hwf := signK_wf z old (old.length / z)
  have hlL : (signK z old (old.length / z)).length ≤ 4096 := by rw [signK_len]; have := Nat.div_le_self old.length z; have := Hno.out; omega
  have htl := tells_sign z old b hz1.1 (by have := Hn.out; omega)
  have hbd := bd_sign z old b hz1.1 (by have := Hn.out; omega)
  obtain ⟨L, hL⟩ : ∃ L, L = signK z old (old.length / z) := ⟨_, rfl⟩
  rw [← hL] at hix hwf hlL htl hbd
  have hsm0 := tiled_count _ 0 b.length htl
  have Hix := Lib.hid hix
  have Hwf := Lib.hid hwf
  have HlL := Lib.hid hlL
  have Htl := Lib.hid htl
  have Hbd := Lib.hid hbd
  have Hcn := Lib.hid hsm0
  clear hix hwf hlL hL htl hbd hsm0 hi0 hiO
  go_enter Tryd.func5, Tryd.ntmps5
  go_wp2_with fail
  refine Calls.mono Hix.out ?_
  rintro e1 w1 ⟨g, rfl, -, hX1, hb1⟩
  have HX1 := Lib.hid hX1
  have HB1 := Lib.hid hb1
  have hsc := search_calls z L g b A1 n c1 w1 hX1 hz2 HlL.out Hwf.out ((Hr.out.below hb1).more hb1.size) Hn.out hc1 hcm1 (by omega) (Htab.out.below hb1)
  have Hsc := Lib.hid hsc
  clear hX1 hb1 Hix hsc
  go_wp2_with fail
  refine Calls.mono Hsc.out ?_
  rintro e3 w3 ⟨v3, M, rfl, ho3, hM3, hb3⟩
  obtain ⟨A3, c3, hv3, -, -, q3, -⟩ := ho3.opens
  obtain ⟨m, hm⟩ : ∃ m, m = M.length := ⟨_, rfl⟩
  rw [← hm] at hv3
  subst hv3
  have hk3 : m ≤ 9223372036854775807 := by obtain ⟨A', c', e', h1', h2', -⟩ := ho3.opens; omega
  have HB3 := Lib.hid (HB1.out.trans (hb3.mono HB1.out.size))
  have HQ := Lib.hid q3
  rw [← hM3] at Htl Hbd Hcn
  have Hm := Lib.hid hm
  have hol : (ops M).length = m := by rw [ops_len, hm]
  have Hol := Lib.hid hol
  clear ho3 hM3 hb3 q3 hm Hsc hol HX1 HB1
  go_wp2_with fail
  go_loopg [11, 12, 13, 14, 15] m (fun q v11 v12 v13 v14 v15 wr => ∃ (i p : Nat), i ≤ m ∧ q = m - i ∧ v12 = .int .i64 (i : Int) ∧ v11 = .int .i64 (p : Int) ∧ p ≤ n ∧ tiled sgOf old b z ((ops M).drop i) p b.length ∧ Below w3.heap.size w3 wr)
  case atStart => exact ⟨0, 0, by omega, rfl, rfl, rfl, by omega, Htl.out, Below.refl _ _⟩
  case round =>
    obtain ⟨i, p, him, hq, rfl, rfl, hpn, htd, hBr⟩ := hrel
    have Hq := Lib.hid hq
    have HBr := Lib.hid hBr
    clear hq hBr
    by_cases hin : i < m
    · have t1 : decide ((i : Int) < (m : Int)) = true := decide_eq_true (by omega)
      have hil : i < M.length := by rw [← Hm.out]; exact hin
      rw [drop_at (ops M) i (by rw [Hol.out]; exact hin), Dl.ops_at M i hil] at htd
      obtain ⟨b3, o3, x1, x2, x3, x4, D, e4, hA3, hbB, hx, hcs, hw2, hw3, hw4, hw5, hw6⟩ := Dl.ReadO.op HQ.out hil
      subst hA3
      rw [hx] at htd
      obtain ⟨hok, htr⟩ := htd
      have hcell : ∀ j v, [Value.bool x1, .int .i64 x2, .int .i64 x3, .slice D x4.length e4][j]? = some v → wr.cell? ⟨b3, o3 + i * 4 + j, none⟩ = some v := fun j v hv => (HBr.out.cell (p := ⟨b3, o3 + i * 4 + j, none⟩) hbB).trans (hcs j v hv)
      have hc0 := hcell 0 _ rfl
      have hc1' := hcell 1 _ rfl
      have hc2' := hcell 2 _ rfl
      have hc3' := hcell 3 _ rfl
      rw [Nat.add_zero] at hc0
      unfold okAt at hok
      simp only at hok
      have htr : tiled sgOf old b z ((ops M).drop (i + 1)) (p + osize ⟨x1, x2, x3, x4⟩) b.length := htr
      have hrd := (hw6.below HBr.out)
      have hix2 := fun w' => run_ixo (P := Tryd.prog) 31 Tryd.underlying31 Hi.out (by omega) b3 o3 i m c3 hin w'
      clear hcell hcs hx hil
      cases x1 with
      | false =>
        as_aux_lemma =>
          simp only [Bool.false_eq_true, if_false] at hok
          obtain ⟨k1, k2, k3⟩ := hok
          have hos : osize ⟨false, x2, x3, x4⟩ = x4.length := rfl
          rw [hos] at htr
          obtain ⟨d, hd⟩ : ∃ d, d = x4.length := ⟨_, rfl⟩
          rw [← hd] at hc3' htr k1 k2 k3 hw4
          obtain ⟨bb, oo, rfl, hbb, -⟩ := Hr.out (by omega)
          have hBw := HB3.out.trans (HBr.out.mono HB3.out.size)
          have hrb : ReadB wr w.heap.size (some ⟨bb, oo + p, none⟩) x4 := by rw [k3]; exact readB_cut (Hr.out.below hBw)
          have hsl := fun w' => sl_lh (P := Tryd.prog) 22 5 i0 Tryd.underlying22 Hi0.out bb oo n c1 (p : Int) ((p : Int) + (d : Int)) p d rfl rfl (by have := Hn.out; omega) (by have := Hn.out; omega) w'
          have hbq := beqS x4
          have f1 : ((d : Int) == 0) = false := by rw [beq_eq_false_iff_ne]; omega
          have f2 : decide ((n : Int) < (p : Int) + (d : Int)) = false := decide_eq_false (by have := Hn.out; omega)
          have hd0 : ¬ (d : Int) = 0 := by omega
          have hd1 : ¬ d = 0 := by omega
          have hpd : p + d ≤ n := by have := Hn.out; omega
          have hwpd : IntKind.i64.wrap ((p : Int) + (d : Int)) = (p : Int) + (d : Int) := by rw [IntKind.wrap_i64]; omega
          have HBw := Lib.hid hBw
          have Hrb := Lib.hid hrb
          have Hrd := Lib.hid hrd
          have Htr := Lib.hid htr
          have Hd := Lib.hid hd
          have Hc0 := Lib.hid hc0
          have Hc3 := Lib.hid hc3'
          clear hBw hrb hrd htr hd k3 hbb hc1' hc2' hw5 hw6 hc3'
          go_wp2_with fail
          have hst1 : ∀ k, (convert 22 9 (.slice D d e4)).run Tryd.prog (wr.drewN k) = .ok (.string (S x4)) (wr.drewN k) := fun k => strof_t (wr.drewN k) _ D e4 x4 d Hd.out Hrd.out
          have hst2 : ∀ k, (convert 22 9 (.slice (some ⟨bb, oo + p, none⟩) d (c1 - p))).run Tryd.prog (wr.drewN k) = .ok (.string (S x4)) (wr.drewN k) := fun k => strof_t (wr.drewN k) _ _ _ x4 d Hd.out Hrb.out
          have hc3 := Hc3.out
          clear hix2
          go_quiet (fail)
          have HBd : Hid (Below w3.heap.size w3 (wr.drewN nq)) := Lib.hid (belowN HBr.out nq)
          clear hst1 hst2
          go_wp2_with fail
          go_roundg (m - (i + 1))
          case rel => exact ⟨i + 1, p + d, by omega, rfl, by first | rfl | simp, by first | rfl | simp, by omega, Htr.out, HBd.out⟩
          case measure => have := Hq.out; omega
      | true =>
        as_aux_lemma =>
          simp only [if_true] at hok
          obtain ⟨N, Aa, rfl, rfl, k1, k2, k3, k4, k5, k6⟩ := hok
          have hos : osize ⟨true, (Aa : Int), (N : Int), x4⟩ = N := by simp [osize]
          rw [hos] at htr
          rw [← Hno.out] at k4
          rw [← Hn.out] at k5
          have hmN : (N : Int).tmod (z : Int) = 0 := by have := (Int.ofNat_tmod N z).symm; rw [k2] at this; exact this
          have hmA : (Aa : Int).tmod (z : Int) = 0 := by have := (Int.ofNat_tmod Aa z).symm; rw [k3] at this; exact this
          have hz0 : ¬ (z : Int) = 0 := by omega
          have f1 : decide ((N : Int) < (z : Int)) = false := decide_eq_false (by omega)
          have f1n : decide (N < z) = false := decide_eq_false (by omega)
          have f3n : decide (no < N) = false := decide_eq_false (by omega)
          have hz0n : ¬ z = 0 := by omega
          have k2n : N % z = 0 := k2
          have k3n : Aa % z = 0 := k3
          have f3 : decide ((no : Int) < (N : Int)) = false := decide_eq_false (by omega)
          have f4 : decide ((no : Int) - (N : Int) < (Aa : Int)) = false := decide_eq_false (by omega)
          have f5 : decide ((n : Int) - (p : Int) < (N : Int)) = false := decide_eq_false (by omega)
          have Hk2 := Lib.hid k2
          have Hk6 := Lib.hid k6
          have Htr := Lib.hid htr
          have Hc0 := Lib.hid hc0
          have HcA : Hid (w3.cell? ⟨b3, o3 + i * 4 + 1, none⟩ = some (.int .i64 (Aa : Int))) := Lib.hid ((HBr.out.cell (p := ⟨b3, o3 + i * 4 + 1, none⟩) hbB).symm.trans hc1')
          have HcN : Hid (w3.cell? ⟨b3, o3 + i * 4 + 2, none⟩ = some (.int .i64 (N : Int))) := Lib.hid ((HBr.out.cell (p := ⟨b3, o3 + i * 4 + 2, none⟩) hbB).symm.trans hc2')
          have HbB := Lib.hid hbB
          obtain ⟨bb, oo, rfl, hbb, -⟩ := Hr.out (by rw [← Hn.out]; omega)
          obtain ⟨ob, ox, rfl, hob, -⟩ := Ho.out (by rw [← Hno.out]; omega)
          clear k2 k3 k6 htr hrd hw2 hw3 hw4 hw5 hw6 hc3' hos hbb hob hbB
          have u1 : IntKind.i64.wrap ((no : Int) - (N : Int)) = (no : Int) - (N : Int) := by rw [IntKind.wrap_i64]; omega
          have u2 : IntKind.i64.wrap ((n : Int) - (p : Int)) = (n : Int) - (p : Int) := by rw [IntKind.wrap_i64]; omega
          have u3 : decide ((Aa : Int) < 0) = false := decide_eq_false (by omega)
          go_wp2_with fail
          go_quiet (fail)
          have HBr : Hid (Below w3.heap.size w3 (wr.drewN nq)) := Lib.hid (belowN HBr.out nq)
          clear hc0 hc1' hc2'
          have hcN16 : (wr.drewN nq).cell? ⟨b3, o3 + i * 4 + 2, none⟩ = some (.int .i64 (N : Int)) := (HBr.out.cell (p := ⟨b3, o3 + i * 4 + 2, none⟩) HbB.out).trans HcN.out
          generalize wr.drewN nq = W16 at *
          clear u1 u2 u3
          go_wp2_with fail
          clear hcN16
          go_loopg [13, 14, 15] N (fun q v13 v14 v15 wx => ∃ y : Nat, y ≤ N ∧ q = N - y ∧ v13 = .int .i64 (y : Int) ∧ (∃ kk, y = kk * z) ∧ Below w3.heap.size w3 wx)
          case atStart => exact ⟨0, by omega, rfl, rfl, ⟨0, by simp⟩, HBr.out⟩
          case round =>
            obtain ⟨y, hyN, hq2, rfl, ⟨kk, hkk⟩, hBx⟩ := hrel
            have Hq2 := Lib.hid hq2
            have HBx := Lib.hid hBx
            have Hkk := Lib.hid hkk
            have HcAx : Hid (wr.cell? ⟨b3, o3 + i * 4 + 1, none⟩ = some (.int .i64 (Aa : Int))) := Lib.hid ((HBx.out.cell (p := ⟨b3, o3 + i * 4 + 1, none⟩) HbB.out).trans HcA.out)
            have hcN : wr.cell? ⟨b3, o3 + i * 4 + 2, none⟩ = some (.int .i64 (N : Int)) := (HBx.out.cell (p := ⟨b3, o3 + i * 4 + 2, none⟩) HbB.out).trans HcN.out
            clear hq2 hBx hkk
            by_cases hyn : y < N
            · have t2 : decide ((y : Int) < (N : Int)) = true := decide_eq_true (by omega)
              have hyz : y + z ≤ N := by
                obtain ⟨mm, hmm⟩ := Nat.dvd_of_mod_eq_zero Hk2.out
                rw [Nat.mul_comm] at hmm
                have h5 := Hkk.out
                rw [hmm, h5] at hyn ⊢
                have h6 : kk < mm := Nat.lt_of_mul_lt_mul_right hyn
                have h7 := Nat.mul_le_mul_right z h6
                rw [Nat.succ_mul] at h7
                exact h7
              have hs1 := fun w' => sl_lh (P := Tryd.prog) 22 5 i0 Tryd.underlying22 Hi0.out ob ox no c ((Aa : Int) + (y : Int)) ((Aa : Int) + (y : Int) + (z : Int)) (Aa + y) z (by omega) (by omega) (by omega) (by omega) w'
              have hs2 := fun w' => sl_lh (P := Tryd.prog) 22 5 i0 Tryd.underlying22 Hi0.out bb oo n c1 ((p : Int) + (y : Int)) ((p : Int) + (y : Int) + (z : Int)) (p + y) z (by omega) (by omega) (by omega) (by omega) w'
              have u1 : IntKind.i64.wrap ((Aa : Int) + (y : Int)) = (Aa : Int) + (y : Int) := by rw [IntKind.wrap_i64]; omega
              have u2 : IntKind.i64.wrap ((Aa : Int) + (y : Int) + (z : Int)) = (Aa : Int) + (y : Int) + (z : Int) := by rw [IntKind.wrap_i64]; omega
              have u3 : IntKind.i64.wrap ((p : Int) + (y : Int)) = (p : Int) + (y : Int) := by rw [IntKind.wrap_i64]; omega
              have u4 : IntKind.i64.wrap ((p : Int) + (y : Int) + (z : Int)) = (p : Int) + (y : Int) + (z : Int) := by rw [IntKind.wrap_i64]; omega
              have hBw := HB3.out.trans (HBx.out.mono HB3.out.size)
              obtain ⟨T1, hT1⟩ : ∃ T1, T1 = cut old (Aa + y) (Aa + y + z) := ⟨_, rfl⟩
              obtain ⟨T2, hT2⟩ : ∃ T2, T2 = cut b (p + y) (p + y + z) := ⟨_, rfl⟩
              have hr1 : ReadB wr w.heap.size (some ⟨ob, ox + (Aa + y), none⟩) T1 := by rw [hT1]; exact readB_cut (Ho.out.below hBw)
              have hr2 : ReadB wr w.heap.size (some ⟨bb, oo + (p + y), none⟩) T2 := by rw [hT2]; exact readB_cut (Hr.out.below hBw)
              have hl1 : z = T1.length := by rw [hT1, cut_len old _ _ (by omega) (by have := Hno.out; omega)]; omega
              have hl2 : z = T2.length := by rw [hT2, cut_len b _ _ (by omega) (by have := Hn.out; omega)]; omega
              have hsg : sha T1 = sha T2 := by
                have h8 := Hk6.out kk (by rw [← Hkk.out]; exact hyn)
                rw [← Hkk.out, ← hT1, ← hT2] at h8
                exact congrArg Prod.snd h8
              have Hl1 := Lib.hid hl1
              have Hl2 := Lib.hid hl2
              have Hsg := Lib.hid hsg
              clear hT1 hT2 hl1 hl2 hsg hBw
              go_wp2_with fail
              have hcA := HcAx.out
              go_quiet (fail)
              have Hr1 : Hid (ReadB (wr.drewN nq) w.heap.size (some ⟨ob, ox + (Aa + y), none⟩) T1) := Lib.hid hr1
              have Hr2 : Hid (ReadB (wr.drewN nq) w.heap.size (some ⟨bb, oo + (p + y), none⟩) T2) := Lib.hid hr2
              have HBd : Hid (Below w3.heap.size w3 (wr.drewN nq)) := Lib.hid (belowN HBx.out nq)
              clear hcN hcA hr1 hr2
              generalize wr.drewN nq = W at *
              have hst1 := strof_t W _ (some ⟨ob, ox + (Aa + y), none⟩) (c - (Aa + y)) T1 z Hl1.out Hr1.out
              have hst2 := strof_t W _ (some ⟨bb, oo + (p + y), none⟩) (c1 - (p + y)) T2 z Hl2.out Hr2.out
              clear hs1 hs2 u1 u2 u3 u4
              by_cases hTT : T1 = T2
              · subst hTT
                have hbq := beqS T1
                go_wp2_with fail
                go_roundg (N - (y + z))
                case rel => exact ⟨y + z, by omega, rfl, by first | rfl | simp, ⟨kk + 1, by rw [Nat.succ_mul, ← Hkk.out]⟩, HBd.out⟩
                case measure => have := Hq2.out; omega
              · have hbq : ((S T1).toList == (S T2).toList) = false := by rw [S_toList, S_toList, beq_eq_false_iff_ne]; exact hTT
                have HBw2 := Lib.hid (HB3.out.trans (HBd.out.mono HB3.out.size))
                have hba := (Below.refl W.heap.size W).alloc (Nat.le_refl _) (.cells #[.slice (some ⟨ob, ox + (Aa + y), none⟩) z (c - (Aa + y))] 22)
                have hbb1 := (ReadBB.lit1 W 22 (some ⟨ob, ox + (Aa + y), none⟩) z (c - (Aa + y)) T1 W.heap.size W.heap.size rfl (Nat.le_refl _) Hl1.out (Hr1.out.more HBw2.out.size) (by rw [← Hl1.out]; omega) (by omega)).more (B' := (W.alloc (.cells #[.slice (some ⟨ob, ox + (Aa + y), none⟩) z (c - (Aa + y))] 22)).heap.size) (by simp)
                have hof := of_calls [T1] (some ⟨W.heap.size, 0, none⟩) 1 _ hbb1 (Htab.out.below (HBw2.out.trans (hba.mono HBw2.out.size))) (by simp) (by omega) (by intro x hx; simp at hx; subst hx; rw [← Hl1.out]; omega) (by simp; rw [← Hl1.out]; omega)
                rw [show [T1].flatten = T1 by simp] at hof
                obtain ⟨H, hH⟩ : ∃ H, H = sha T1 := ⟨_, rfl⟩
                have hH32 : H.length = 32 := by rw [hH]; exact hash_len _
                rw [← hH] at hof
                have hne := fun w' => run_neH H hH32 w'
                have Hof := Lib.hid hof
                have HH := Lib.hid hH
                have Hba := Lib.hid hba
                clear hba hbb1 hof hH hH32
                go_wp2_with fail
                refine Calls.mono Hof.out ?_
                rintro e5 w5 ⟨rfl, hb5⟩
                have HB5 := Lib.hid (HBd.out.trans ((Hba.out.trans (hb5.mono (by simp))).mono HBd.out.size))
                have HBw5 := Lib.hid (HB3.out.trans (HB5.out.mono HB3.out.size))
                have hr5 := Hr2.out.below (((Hba.out.trans (hb5.mono (by simp))).mono HBw2.out.size))
                have hba := (Below.refl w5.heap.size w5).alloc (Nat.le_refl _) (.cells #[.slice (some ⟨bb, oo + (p + y), none⟩) z (c1 - (p + y))] 22)
                have hbb1 := (ReadBB.lit1 w5 22 (some ⟨bb, oo + (p + y), none⟩) z (c1 - (p + y)) T2 w5.heap.size w5.heap.size rfl (Nat.le_refl _) Hl2.out (hr5.more HBw5.out.size) (by rw [← Hl2.out]; omega) (by omega)).more (B' := (w5.alloc (.cells #[.slice (some ⟨bb, oo + (p + y), none⟩) z (c1 - (p + y))] 22)).heap.size) (by simp)
                have hof := of_calls [T2] (some ⟨w5.heap.size, 0, none⟩) 1 _ hbb1 (Htab.out.below (HBw5.out.trans (hba.mono HBw5.out.size))) (by simp) (by omega) (by intro x hx; simp at hx; subst hx; rw [← Hl2.out]; omega) (by simp; rw [← Hl2.out]; omega)
                rw [show [T2].flatten = T2 by simp, ← Hsg.out, ← HH.out] at hof
                have Hof2 := Lib.hid hof
                have Hba2 := Lib.hid hba
                clear hba hbb1 hof hr5 hb5 hst1 hst2
                go_wp2_with fail
                refine Calls.mono Hof2.out ?_
                rintro e6 w6 ⟨rfl, hb6⟩
                have HB6 := Lib.hid (HB5.out.trans ((Hba2.out.trans (hb6.mono (by simp))).mono HB5.out.size))
                clear hb6
                go_wp2_with fail
                go_roundg (N - (y + z))
                case rel => exact ⟨y + z, by omega, rfl, by first | rfl | simp, ⟨kk + 1, by rw [Nat.succ_mul, ← Hkk.out]⟩, HB6.out⟩
                case measure => have := Hq2.out; omega
            · have hye : y = N := by omega
              have t2 : decide ((y : Int) < (N : Int)) = false := decide_eq_false (by omega)
              go_wp2_with fail
              go_roundg (m - (i + 1))
              case rel => exact ⟨i + 1, p + N, by omega, rfl, by first | rfl | simp, by first | rfl | simp, by omega, Htr.out, HBx.out⟩
              case measure => have := Hq.out; omega
    · have hie : i = m := by omega
      have t1 : decide ((i : Int) < (m : Int)) = false := decide_eq_false (by omega)
      have hpb : p = n := by
        rw [List.drop_of_length_le (by rw [Hol.out]; omega)] at htd
        have : p = b.length := htd
        rw [this, Hn.out]
      have hBw := HB3.out.trans (HBr.out.mono HB3.out.size)
      have hqr : ReadO wr wr.heap.size A3 M := ReadO.more (HQ.out.below HBr.out) HBr.out.size
      obtain ⟨cv, hcv⟩ : ∃ cv, cv = copied (ops M) := ⟨_, rfl⟩
      obtain ⟨lv, hlv⟩ : ∃ lv, lv = literal (ops M) := ⟨_, rfl⟩
      have hcl : cv + lv = (n : Int) := by
        have := Hcn.out
        rw [← hcv, ← hlv, ← Hn.out] at this
        omega
      have hcb := (Hbd.out (ops M).length).1
      have hlb := (Hbd.out (ops M).length).2
      rw [List.take_length, ← hcv] at hcb
      rw [List.take_length, ← hlv] at hlb
      have hcc := Dl.copied_calls M A3 m c3 Hm.out hk3 (fun k => (Hbd.out k).1) wr hqr
      rw [← hcv] at hcc
      have Hcc := Lib.hid hcc
      have Hlv := Lib.hid hlv
      have HBw := Lib.hid hBw
      have Hqr := Lib.hid hqr
      clear htd hBw hqr hcv hlv hcc
      go_wp2_with fail
      refine Calls.mono Hcc.out ?_
      rintro e5 w5 ⟨rfl, hb5⟩
      have HB5 := Lib.hid (HBw.out.trans (hb5.mono HBw.out.size))
      have hlc := Dl.literal_calls M A3 m c3 Hm.out hk3 (fun k => (Hbd.out k).2) w5 (ReadO.more (Hqr.out.below hb5) hb5.size)
      rw [← Hlv.out] at hlc
      have Hlc := Lib.hid hlc
      clear hb5 hlc
      go_wp2_with fail
      refine Calls.mono Hlc.out ?_
      rintro e6 w6 ⟨rfl, hb6⟩
      have HB6 := Lib.hid (HB5.out.trans (hb6.mono HB5.out.size))
      clear hb6
      go_wp2_with fail
      refine (awake_calls _ (Htab.out.below HB6.out)).mono ?_
      rintro e9 w9 ⟨rfl, hb9⟩
      have HB9 := Lib.hid (HB6.out.trans (hb9.mono HB6.out.size))
      clear hb9
      go_wp2_with fail
      go_ret
      exact ⟨rfl, HB9.out⟩
end Ms
end Go.Proofs.YtiofkhjpknfkgaaDoor

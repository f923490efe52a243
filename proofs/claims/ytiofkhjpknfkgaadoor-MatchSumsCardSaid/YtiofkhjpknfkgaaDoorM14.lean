/- The sums of a file's blocks, of the program. -/
import Derived.Test.YtiofkhjpknfkgaaDoorM01
import Derived.Test.YtiofkhjpknfkgaaDoorM02
import Derived.Test.YtiofkhjpknfkgaaDoorM03
import Derived.Test.YtiofkhjpknfkgaaDoorM04
import Derived.Test.YtiofkhjpknfkgaaDoorM05
import Derived.Test.YtiofkhjpknfkgaaDoorM06
import Derived.Test.YtiofkhjpknfkgaaDoorM07
import Derived.Test.YtiofkhjpknfkgaaDoorM08
import Derived.Test.YtiofkhjpknfkgaaDoorM09
import Derived.Test.YtiofkhjpknfkgaaDoorM10
import Derived.Test.YtiofkhjpknfkgaaDoorM11
import Derived.Test.YtiofkhjpknfkgaaDoorM12
import Derived.Test.YtiofkhjpknfkgaaDoorM13
import Derived.Test.YtiofkhjpknfkgaaDoorProg
import Derived.WalkKit
import Derived.KernelRfl
import Derived.RowKit3
import Derived.WalkSpells
import Derived.Lib.Hide
import Derived.Deep.RegionWith
import Derived.Deep.LoopGhost
import Derived.Deep.QuietTactic
import Derived.BigQuiet
namespace Go.Proofs.YtiofkhjpknfkgaaDoor
namespace Bk
open Go.RowKit Ba Sm Ro
set_option linter.unusedVariables false
set_option maxRecDepth 100000 in
set_option maxHeartbeats 2000000 in
theorem sign_calls (b : List UInt8) (size : Int) (A : Option Addr) (c : Nat) (w : World) (hr : ReadB w w.heap.size A b) (hbc : b.length ≤ c) (hcm : c ≤ 9223372036854775807) (hsz : -9223372036854775808 ≤ size ∧ size ≤ 9223372036854775807) (htab : Tab w) :
    Calls Tryd.prog 22 #[.slice A b.length c, .int .i64 size] w
      fun e w' => ∃ v, e = .returned (.tuple #[v, .int .i64 (sign size b).2]) ∧ OwnRow sgv 33 w' w.heap.size 60 v (sign size b).1 ∧ Below w.heap.size w w' := by
  by_cases h1 : 1 ≤ size ∧ size ≤ 4096
  · obtain ⟨z, rfl⟩ : ∃ z : Nat, size = (z : Int) := ⟨size.toNat, by omega⟩
    have hm := may_calls (z : Int) true (by simp; omega)
    have Hm := Lib.hid hm
    clear hm
    by_cases h2 : b.length ≤ 65536 ∧ b.length / z ≤ 4096
    · have hs : sign (z : Int) b = (signK z b (b.length / z), 0) := by unfold sign; rw [if_neg (by omega), if_neg (by simp; omega)]; simp
      rw [hs]
      obtain ⟨n, hn⟩ : ∃ n, n = b.length / z := ⟨_, rfl⟩
      rw [← hn] at h2 ⊢
      have hnz : n * z ≤ b.length := by rw [hn]; exact Nat.div_mul_le_self _ _
      have hnz2 : b.length < n * z + z := by rw [hn]; have h5 := Nat.div_add_mod b.length z; have h6 := Nat.mod_lt b.length (show z > 0 by omega); rw [Nat.mul_comm] at h5; omega
      have hdiv : (b.length : Int).tdiv (z : Int) = (n : Int) := by rw [hn]; exact Int.ofNat_tdiv _ _ |>.symm
      have hz0 : (z : Int) ≠ 0 := by omega
      obtain ⟨i0, hi0⟩ := isRec_of infoSig
      have Hi := Lib.hid hi0
      have Hr := Lib.hid hr
      have Htab := Lib.hid htab
      have Hnz := Lib.hid hnz
      have Hnz2 := Lib.hid hnz2
      have Hn := Lib.hid hn
      clear hi0 hr htab hnz hnz2 hn hs
      go_enter Tryd.func22, Tryd.ntmps22
      go_wp2_with (go_at_call 53; refine (Hm.out _).mono ?_; rintro e w1 ⟨rfl, rfl⟩)
      go_loopg [0, 6] n (fun m v0 v6 wr => ∃ (k : Nat) (A' : Option Addr) (c' : Nat) (r : List UInt8), k ≤ n ∧ m = n - k ∧ r = b.drop (k * z) ∧ v0 = .slice A' r.length c' ∧ r.length ≤ c' ∧ c' ≤ 9223372036854775807 ∧ ReadB w w.heap.size A' r ∧ OwnRow sgv 33 wr w.heap.size 60 v6 (signK z b k) ∧ Below w.heap.size w wr)
      case atStart => exact ⟨0, A, c, b, by omega, rfl, by simp, rfl, hbc, hcm, Hr.out, OwnRow.nil, Below.refl _ _⟩
      case round =>
        obtain ⟨k, A', c', r, hk, hm, hrd, rfl, hrc, hcc, hrA, ho, hb⟩ := hrel
        have hrl : r.length = b.length - k * z := by rw [hrd, List.length_drop]
        have Hm2 := Lib.hid hm
        have Hrd := Lib.hid hrd
        have HrA := Lib.hid hrA
        have Ho := Lib.hid ho
        have Hb := Lib.hid hb
        have Hrl := Lib.hid hrl
        have hr64 : r.length ≤ 65536 := by omega
        clear hm hrd hrA ho hb hrl Hr
        by_cases hkn : k < n
        · have hzr : z ≤ r.length := by
            have e1 : (k + 1) * z ≤ n * z := Nat.mul_le_mul_right z hkn
            rw [Nat.add_mul, Nat.one_mul] at e1
            have := Hnz.out
            have := Hrl.out
            omega
          have t1 : decide ((z : Int) ≤ (r.length : Int)) = true := by rw [decide_eq_true_eq]; omega
          have i1 : (0 : Int) ≤ (z : Int) := by omega
          have i2 : (z : Int) ≤ (c' : Int) := by omega
          have i3 : (z : Int) ≤ (r.length : Int) := by omega
          have Hx : Hid (ReadB wr.drew w.heap.size A' (r.take z)) := Lib.hid ((HrA.out.below Hb.out).take z)
          have Hfl : Hid ([r.take z].flatten = r.take z) := Lib.hid (by simp)
          have hba := (Below.refl wr.drew.heap.size wr.drew).alloc (Nat.le_refl _) (.cells #[.slice A' z c'] 22)
          have Hbb : Hid (ReadBB (wr.drew.alloc (.cells #[.slice A' z c'] 22)) (wr.drew.alloc (.cells #[.slice A' z c'] 22)).heap.size (some ⟨wr.drew.heap.size, 0, none⟩) [r.take z]) := Lib.hid ((ReadBB.lit1 wr.drew 22 A' z c' (r.take z) w.heap.size wr.drew.heap.size rfl Hb.out.size (by rw [List.length_take]; omega) Hx.out (by rw [List.length_take]; omega) hcc).more (by simp))
          have Htab1 : Hid (Tab (wr.drew.alloc (.cells #[.slice A' z c'] 22))) := Lib.hid (Htab.out.below ((Hb.out.drew).alloc (by simpa using Hb.out.size) _))
          have Ho := Lib.hid Ho.out.drew
          have Hb := Lib.hid Hb.out.drew
          obtain ⟨x1, hx1⟩ : ∃ x1, rsum (r.take z) = x1 := ⟨_, rfl⟩
          obtain ⟨x2, hx2⟩ : ∃ x2, sha (r.take z) = x2 := ⟨_, rfl⟩
          have Hl2 : Hid (x2.length = 32) := Lib.hid (by rw [← hx2]; exact hash_len _)
          have Hx1 := Lib.hid hx1
          have Hx2 := Lib.hid hx2
          clear hx1 hx2
          go_wp2_with fail
          refine CanT.region (fun _ => True) 1000 (.op 0 2 (.op 1 2 (.op 2 2 (.op 3 2 (.op 5 2 (.op 6 2 (.op 7 2 (.fork (.op 4 0 (.op 8 0 (.op 9 0 (.op 10 2 (.op 11 0 (.op 12 0 (.op 13 2 (.nil)))))))) (.op 8 0 (.op 4 0 (.op 9 0 (.op 10 2 (.op 11 0 (.op 12 0 (.op 13 2 (.nil)))))))))))))))) (by kernel_rfl) (by kernel_rfl) trivial ?_
          generalize wr.drew = wr at *
          repeat (first | (refine CanT.skip rfl ?_ (fun K hK => ?_); (focus (go_simp; done)); go_simp; refine hK _ ?_; clear hK K) | (refine CanT.pur rfl ?_ ?_; (focus (go_simp; done)); refine ⟨?_, ?_, ?_⟩; rotate_left; (focus (intro w'; go_simp; rfl)); (focus (intro K hK; go_simp; refine hK _ ?_; clear hK K))))
          refine CanT.both ?_ ?_
          · refine CanT.imp rfl (fun K hK => ?_)
            go_simp
            refine (sum_calls (l := r.take z) (by rw [List.length_take]; omega) Hx.out (by rw [List.length_take]; omega)).mono ?_
            rw [Hx1.out]
            rintro e w1 ⟨rfl, rfl⟩
            (try go_simp)
            refine hK.out _ _ (trivial) ?_
            clear hK K
            refine CanT.imp rfl (fun K hK => ?_)
            go_simp
            refine hK.out _ _ (trivial) ?_
            clear hK K
            refine CanT.imp rfl (fun K hK => ?_)
            go_simp
            refine (of_calls [r.take z] (some ⟨wr.heap.size, 0, none⟩) 1 _ (Hbb.out) (Htab1.out) (by simp) (by omega) (by intro p hp; simp at hp; subst hp; rw [List.length_take]; omega) (by simp; omega)).mono ?_
            rw [Hfl.out, Hx2.out]
            rintro e w2 ⟨rfl, hb2⟩
            have hb2' := hba.trans (hb2.mono (by simp))
            have Ho2 := Lib.hid (Ho.out.keptB hb2')
            have Hb2 := Lib.hid (Hb.out.trans (hb2'.mono Hb.out.size))
            clear hb2 hb2'
            (try go_simp)
            refine hK.out _ _ (trivial) ?_
            clear hK K
            repeat (first | (refine CanT.skip rfl ?_ (fun K hK => ?_); (focus (go_simp; done)); go_simp; refine hK _ ?_; clear hK K) | (refine CanT.pur rfl ?_ ?_; (focus (go_simp; done)); refine ⟨?_, ?_, ?_⟩; rotate_left; (focus (intro w'; go_simp; rfl)); (focus (intro K hK; go_simp; refine hK _ ?_; clear hK K))) | (refine CanT.bld rfl ?_ 60 _ rfl #[(0, .int .u32 (x1 : Int)), (1, .agg (bvs x2).toArray)] rfl _ (fun w' => run_sig x1 x2 Hl2.out w') (fun K hK => ?_); (focus (go_simp; done)); go_simp; refine hK _ ?_; clear hK K))
            refine CanT.imp rfl (fun K hK => ?_)
            refine step_bslice _ ?_ 27 60 1 _ rfl Tryd.underlying27 i0 33 36 Hi.out (by omega) (by omega) [(0, .agg (sgv (x1, x2)).toArray)] rfl (sgv (x1, x2)) (fun Z hZ => fill_one 33 (.agg (sgv (x1, x2)).toArray) (sgv_len Hl2.out) Z hZ) ?_
            focus (go_simp; done)
            (try go_simp)
            refine hK.out _ _ (trivial) ?_
            clear hK K
            refine CanT.imp rfl (fun K hK => ?_)
            refine step_appR _ ?_ (.tmp 29) (.tmp 40) 27 rfl w.heap.size 60 i0 36 Tryd.underlying27 Hi.out (by omega) _ _ rfl (Ho2.out.alloc _) _ _ 1 1 [(x1, x2)] rfl rfl (ReadRow.lit1 w2 60 _ (x1, x2) rfl (sgv_len Hl2.out) (sgv_one _)) (by rw [signK_len]; simp; omega) (by rw [signK_len]; simp; omega) (by have := Hb2.out.size; simp; omega) ?_
            focus (go_simp; done)
            intro v3 w3 ho3 _ _ hb3
            have Ho3 := Lib.hid ho3
            have Hb3 := Lib.hid ((Hb2.out.alloc Hb2.out.size _).trans hb3)
            clear ho3 hb3
            (try go_simp)
            refine hK.out _ _ (trivial) ?_
            clear hK K
            repeat (first | (refine CanT.skip rfl ?_ (fun K hK => ?_); (focus (go_simp; done)); go_simp; refine hK _ ?_; clear hK K) | (refine CanT.pur rfl ?_ ?_; (focus (go_simp; done)); refine ⟨?_, ?_, ?_⟩; rotate_left; (focus (intro w'; go_simp; rfl)); (focus (intro K hK; go_simp; refine hK _ ?_; clear hK K))))
            refine CanT.done ?_
            have hnext : ∀ (A2 : Option Addr) (c2 : Nat), A2 = (if c' = z then A' else A'.map (·.add z)) → c2 = c' - z → ∃ r2, r2 = b.drop ((k + 1) * z) ∧ r2.length = r.length - z ∧ r2.length ≤ c2 ∧ c2 ≤ 9223372036854775807 ∧ ReadB w w.heap.size A2 r2 := by
              intro A2 c2 hA2 hc2
              refine ⟨r.drop z, by rw [Hrd.out, List.drop_drop, Nat.add_mul, Nat.one_mul], by rw [List.length_drop], by rw [List.length_drop]; omega, by omega, ?_⟩
              rw [hA2]
              exact HrA.out.cut hrc
            have Hnext := Lib.hid hnext
            have hs3 : signK z b (k + 1) = signK z b k ++ [(x1, x2)] := by
              rw [signK_succ]
              have e : sgOf (blk z b k) = (x1, x2) := by unfold blk sgOf; rw [← Hrd.out, Hx1.out, Hx2.out]
              rw [e]
            have Hs3 := Lib.hid hs3
            clear hnext hs3
            by_cases hcz : c' = z
            all_goals
              go_wp2
              go_roundg (n - (k + 1))
              case rel =>
                obtain ⟨r2, q1, q2, q3, q4, q5⟩ := Hnext.out _ _ rfl rfl
                refine ⟨k + 1, _, _, r2, by omega, rfl, q1, ?_, q3, q4, q5, by rw [Hs3.out]; exact Ho3.out, Hb3.out⟩
                rw [q2]
                simp [hcz]
              case measure => have := Hm2.out; omega
          · refine CanT.imp rfl (fun K hK => ?_)
            go_simp
            refine hK.out _ _ (trivial) ?_
            clear hK K
            refine CanT.imp rfl (fun K hK => ?_)
            go_simp
            refine (sum_calls (l := r.take z) (by rw [List.length_take]; omega) (Hx.out.alloc Hb.out.size _) (by rw [List.length_take]; omega)).mono ?_
            rw [Hx1.out]
            rintro e w1 ⟨rfl, rfl⟩
            (try go_simp)
            refine hK.out _ _ (trivial) ?_
            clear hK K
            refine CanT.imp rfl (fun K hK => ?_)
            go_simp
            refine (of_calls [r.take z] (some ⟨wr.heap.size, 0, none⟩) 1 _ (Hbb.out) (Htab1.out) (by simp) (by omega) (by intro p hp; simp at hp; subst hp; rw [List.length_take]; omega) (by simp; omega)).mono ?_
            rw [Hfl.out, Hx2.out]
            rintro e w2 ⟨rfl, hb2⟩
            have hb2' := hba.trans (hb2.mono (by simp))
            have Ho2 := Lib.hid (Ho.out.keptB hb2')
            have Hb2 := Lib.hid (Hb.out.trans (hb2'.mono Hb.out.size))
            clear hb2 hb2'
            (try go_simp)
            refine hK.out _ _ (trivial) ?_
            clear hK K
            repeat (first | (refine CanT.skip rfl ?_ (fun K hK => ?_); (focus (go_simp; done)); go_simp; refine hK _ ?_; clear hK K) | (refine CanT.pur rfl ?_ ?_; (focus (go_simp; done)); refine ⟨?_, ?_, ?_⟩; rotate_left; (focus (intro w'; go_simp; rfl)); (focus (intro K hK; go_simp; refine hK _ ?_; clear hK K))) | (refine CanT.bld rfl ?_ 60 _ rfl #[(0, .int .u32 (x1 : Int)), (1, .agg (bvs x2).toArray)] rfl _ (fun w' => run_sig x1 x2 Hl2.out w') (fun K hK => ?_); (focus (go_simp; done)); go_simp; refine hK _ ?_; clear hK K))
            refine CanT.imp rfl (fun K hK => ?_)
            refine step_bslice _ ?_ 27 60 1 _ rfl Tryd.underlying27 i0 33 36 Hi.out (by omega) (by omega) [(0, .agg (sgv (x1, x2)).toArray)] rfl (sgv (x1, x2)) (fun Z hZ => fill_one 33 (.agg (sgv (x1, x2)).toArray) (sgv_len Hl2.out) Z hZ) ?_
            focus (go_simp; done)
            (try go_simp)
            refine hK.out _ _ (trivial) ?_
            clear hK K
            refine CanT.imp rfl (fun K hK => ?_)
            refine step_appR _ ?_ (.tmp 29) (.tmp 40) 27 rfl w.heap.size 60 i0 36 Tryd.underlying27 Hi.out (by omega) _ _ rfl (Ho2.out.alloc _) _ _ 1 1 [(x1, x2)] rfl rfl (ReadRow.lit1 w2 60 _ (x1, x2) rfl (sgv_len Hl2.out) (sgv_one _)) (by rw [signK_len]; simp; omega) (by rw [signK_len]; simp; omega) (by have := Hb2.out.size; simp; omega) ?_
            focus (go_simp; done)
            intro v3 w3 ho3 _ _ hb3
            have Ho3 := Lib.hid ho3
            have Hb3 := Lib.hid ((Hb2.out.alloc Hb2.out.size _).trans hb3)
            clear ho3 hb3
            (try go_simp)
            refine hK.out _ _ (trivial) ?_
            clear hK K
            repeat (first | (refine CanT.skip rfl ?_ (fun K hK => ?_); (focus (go_simp; done)); go_simp; refine hK _ ?_; clear hK K) | (refine CanT.pur rfl ?_ ?_; (focus (go_simp; done)); refine ⟨?_, ?_, ?_⟩; rotate_left; (focus (intro w'; go_simp; rfl)); (focus (intro K hK; go_simp; refine hK _ ?_; clear hK K))))
            refine CanT.done ?_
            have hnext : ∀ (A2 : Option Addr) (c2 : Nat), A2 = (if c' = z then A' else A'.map (·.add z)) → c2 = c' - z → ∃ r2, r2 = b.drop ((k + 1) * z) ∧ r2.length = r.length - z ∧ r2.length ≤ c2 ∧ c2 ≤ 9223372036854775807 ∧ ReadB w w.heap.size A2 r2 := by
              intro A2 c2 hA2 hc2
              refine ⟨r.drop z, by rw [Hrd.out, List.drop_drop, Nat.add_mul, Nat.one_mul], by rw [List.length_drop], by rw [List.length_drop]; omega, by omega, ?_⟩
              rw [hA2]
              exact HrA.out.cut hrc
            have Hnext := Lib.hid hnext
            have hs3 : signK z b (k + 1) = signK z b k ++ [(x1, x2)] := by
              rw [signK_succ]
              have e : sgOf (blk z b k) = (x1, x2) := by unfold blk sgOf; rw [← Hrd.out, Hx1.out, Hx2.out]
              rw [e]
            have Hs3 := Lib.hid hs3
            clear hnext hs3
            by_cases hcz : c' = z
            all_goals
              go_wp2
              go_roundg (n - (k + 1))
              case rel =>
                obtain ⟨r2, q1, q2, q3, q4, q5⟩ := Hnext.out _ _ rfl rfl
                refine ⟨k + 1, _, _, r2, by omega, rfl, q1, ?_, q3, q4, q5, by rw [Hs3.out]; exact Ho3.out, Hb3.out⟩
                rw [q2]
                simp [hcz]
              case measure => have := Hm2.out; omega
        · have hkn2 : k = n := by omega
          have t1 : decide ((z : Int) ≤ (r.length : Int)) = false := by
            rw [decide_eq_false_iff_not]
            have := Hnz2.out
            have := Hnz.out
            have := Hrl.out
            rw [hkn2] at this
            omega
          have t2 : decide (z ≤ r.length) = false := by
            rw [decide_eq_false_iff_not] at t1 ⊢
            omega
          have t3 : ¬ z ≤ r.length := by simpa using t2
          go_wp2_with fail
          go_ret2
          rw [hkn2] at Ho
          exact ⟨u6, rfl, Ho.out, Hb.out⟩
    · have hs : sign (z : Int) b = ([], 5) := by unfold sign; rw [if_neg (by omega), if_pos (by simp; omega)]
      rw [hs]
      have hdiv : (b.length : Int).tdiv (z : Int) = ((b.length / z : Nat) : Int) := Int.ofNat_tdiv _ _ |>.symm
      have hnl : b.length / z ≤ b.length := Nat.div_le_self _ _
      generalize b.length / z = n at hdiv h2 hnl
      have hz0 : (z : Int) ≠ 0 := by omega
      clear hr htab hs
      by_cases h3 : b.length ≤ 65536
      all_goals
        go_enter Tryd.func22, Tryd.ntmps22
        go_wp2_with (go_at_call 53; refine (Hm.out _).mono ?_; rintro e w1 ⟨rfl, rfl⟩)
        go_ret2
        exact ⟨_, rfl, OwnRow.nil, Below.refl _ _⟩
  · have hs : sign size b = ([], 2) := by unfold sign; rw [if_pos (by omega)]
    rw [hs]
    have hm := may_calls size false (by simp; omega)
    have Hm := Lib.hid hm
    clear hm hr htab hs
    go_enter Tryd.func22, Tryd.ntmps22
    go_wp2_with (go_at_call 53; refine (Hm.out _).mono ?_; rintro e w1 ⟨rfl, rfl⟩)
    go_ret2
    exact ⟨_, rfl, OwnRow.nil, Below.refl _ _⟩
end Bk
end Go.Proofs.YtiofkhjpknfkgaaDoor
/- Bytes of a constant text: the row is laid and marked; the mark changes no cell. -/
namespace Go.Proofs.YtiofkhjpknfkgaaDoor
namespace Li
open Go.RowKit Ba
set_option linter.unusedVariables false
/-- a world with a row marked -/
def mkB (w : World) (g : Nat) : World := match w.shape? g with
  | some (_, n) => w.freeze ⟨g, n, none⟩ 1
  | none => w
section
variable {P : Program}
theorem conv_run (t e : TypeId) (ht : P.underlying t = some (.slice e)) (he : P.underlying e = some (.int .u8)) (g n c : Nat) (w : World) :
    (convert t t (.slice (some ⟨g, 0, none⟩) n c)).run P w = .ok (.slice (some ⟨g, 0, none⟩) n c) (mkB w g) := by
  unfold mkB
  simp only [convert, Sem.run_bind, run_underlying ht, run_underlying he, Result.andThen_ok, beq_self_eq_true, markStringish]
  cases h : w.shape? g with
  | none => simp [h]
  | some p => obtain ⟨e', n'⟩ := p; simp [h]
theorem freeze_size (w : World) (a : Addr) (n : Nat) : (w.freeze a n).heap.size = w.heap.size := by
  unfold World.freeze; split <;> simp
theorem mkB_size (w : World) (g : Nat) : (mkB w g).heap.size = w.heap.size := by
  unfold mkB; split
  · exact freeze_size _ _ _
  · rfl
theorem mkB_grown (w : World) (g : Nat) : w.grownBy (mkB w g) (some g) := by
  unfold mkB
  split
  · refine ⟨?_, ?_, ?_, by rw [freeze_size]; exact Nat.le_refl _, fun i hi hne => ?_⟩
    · unfold World.freeze; rw [if_neg (by decide)]
    · unfold World.freeze; rw [if_neg (by decide)]
    · unfold World.freeze; rw [if_neg (by decide)]
    · unfold World.freeze
      rw [if_neg (by decide)]
      have : g ≠ i := fun e => hne (by rw [e])
      simp [Array.getElem?_modify, this]
  · exact World.grownBy.refl w _
theorem mkB_cell (w : World) (g : Nat) (b o : Nat) : (mkB w g).cell? ⟨b, o, none⟩ = w.cell? ⟨b, o, none⟩ := by
  by_cases hb : b = g
  · subst hb
    unfold mkB
    split
    · unfold World.freeze
      rw [if_neg (by decide)]
      unfold World.cell?
      simp only [Array.getElem?_modify, if_true]
      cases w.heap[b]? with
      | none => rfl
      | some ob =>
        cases ob with
        | cells c e fr => obtain ⟨lo, hi⟩ := fr; rfl
        | _ => rfl
    · rfl
  · rcases Nat.lt_or_ge b w.heap.size with h | h
    · exact World.cell?_of_block ((mkB_grown w g).block b h (by simpa using hb))
    · have h1 : w.heap[b]? = none := Array.getElem?_eq_none h
      have h2 : (mkB w g).heap[b]? = none := Array.getElem?_eq_none (by rw [mkB_size]; exact h)
      unfold World.cell?
      simp only [h1, h2]
theorem mkB_below {B : Nat} {a w : World} {g : Nat} (h : Below B a w) (hg : B ≤ g) (hs : B ≤ w.heap.size) : Below B a (mkB w g) := h.trans (below_of_only (mkB_grown w g) hg hs)
end
end Li
end Go.Proofs.YtiofkhjpknfkgaaDoor
/- The closed case: what every right program tells of eight bytes. -/
namespace Go.Proofs.YtiofkhjpknfkgaaDoor
namespace Bk
open Go.RowKit Ba Sm Ro
set_option linter.unusedVariables false
theorem mkB_lit (w : World) (E : TypeId) (vs : List Value) (l : List UInt8) (g : Nat) (hg : g = w.heap.size) (h : vs = bvs l) :
    ReadB (Li.mkB (w.alloc (.cells vs.toArray E)) g) (Li.mkB (w.alloc (.cells vs.toArray E)) g).heap.size (some ⟨g, 0, none⟩) l ∧ Below w.heap.size w (Li.mkB (w.alloc (.cells vs.toArray E)) g) := by
  subst hg
  refine ⟨?_, Li.mkB_below ((Below.refl _ _).alloc (Nat.le_refl _) _) (Nat.le_refl _) (by simp)⟩
  have h1 := ReadB.litN w E vs l w.heap.size rfl h
  rw [Li.mkB_size]
  intro hn
  obtain ⟨b, o, e, hb, hc⟩ := h1 hn
  exact ⟨b, o, e, by simpa using hb, fun k hk => by rw [Li.mkB_cell]; exact hc k hk⟩
def abc8 : List UInt8 := [97, 98, 99, 100, 101, 102, 103, 104]
theorem abc_blk : blk 3 abc8 0 = [97, 98, 99] ∧ blk 3 abc8 1 = [100, 101, 102] := by decide
theorem abc_sums : rsum [97, 98, 99] ≠ rsum [100, 101, 102] := by decide
theorem abc_sign : sign 3 abc8 = (signK 3 abc8 2, 0) := rfl
theorem abc_find : findB 3 (signK 3 abc8 2) [100, 101, 102] = (3, true) := by
  have e0 : findB 3 (signK 3 abc8 2) [100, 101, 102] = tellIx 3 (findIx (signK 3 abc8 2) (sgOf [100, 101, 102])) := if_pos (by rfl)
  rw [e0]
  have e : signK 3 abc8 2 = [sgOf [97, 98, 99], sgOf [100, 101, 102]] := by
    show [sgOf (blk 3 abc8 0), sgOf (blk 3 abc8 1)] = _
    rw [abc_blk.1, abc_blk.2]
  rw [e]
  have h : findIx [sgOf [97, 98, 99], sgOf [100, 101, 102]] (sgOf [100, 101, 102]) = some 1 := by
    unfold findIx
    show List.find? _ [0, 1] = some 1
    have h0 : (sg [sgOf [97, 98, 99], sgOf [100, 101, 102]] 0 == sgOf [100, 101, 102]) = false := by
      have : sgOf [97, 98, 99] ≠ sgOf [100, 101, 102] := fun h => abc_sums (congrArg Prod.fst h)
      exact beq_false_of_ne this
    have h1 : (sg [sgOf [97, 98, 99], sgOf [100, 101, 102]] 1 == sgOf [100, 101, 102]) = true := beq_self_eq_true (sgOf [100, 101, 102])
    rw [List.find?_cons_of_neg (by rw [h0]; decide)]
    exact List.find?_cons_of_pos h1
  rw [h]
  rfl
end Bk
end Go.Proofs.YtiofkhjpknfkgaaDoor
/- Operations as a stream of bytes: plain words and laws. -/
namespace Go.Proofs.YtiofkhjpknfkgaaDoor
namespace Dm
open Tm
set_option linter.unusedVariables false
def makes (x : O) : Int := if x.copy then x.n else x.data.length
def may (x : O) (old : Int) : Bool := if x.copy then decide (x.data.length = 0) && decide (0 ≤ x.pos) && decide (1 ≤ x.n) && decide (x.pos ≤ old) && decide (x.n ≤ old - x.pos) else decide (0 < x.data.length) && decide (x.pos = 0) && decide (x.n = 0)
def room : List O → Int → Bool
  | [], _ => true
  | x :: t, r => if r - makes x < 0 then false else room t (r - makes x)
def check (l : List O) (old : Int) : Int := if 4096 < l.length then 5 else if l.all (may · old) = false then 4 else if room l 65536 = false then 5 else 0
def piece (old : List UInt8) (x : O) : List UInt8 := if x.copy then (old.drop x.pos.toNat).take x.n.toNat else x.data
def made (old : List UInt8) (l : List O) : List UInt8 := l.flatMap (piece old)
def apply (old : List UInt8) (l : List O) : List UInt8 × Int := if check l old.length ≠ 0 then ([], check l old.length) else (made old l, 0)
def putx (x : O) : List UInt8 := if x.copy then 1 :: (Fm.num x.pos ++ Fm.num x.n) else 0 :: Fm.text x.data
def put (l : List O) : List UInt8 := l.flatMap putx
def cutx (x : O) (n : Int) : O := if x.copy then ⟨true, x.pos + n, x.n - n, x.data⟩ else ⟨false, x.pos, x.n, x.data.drop n.toNat⟩
def from_ : List O → Int → List O
  | [], _ => []
  | x :: t, n => if n ≤ 0 then x :: from_ t n else if makes x ≤ n then from_ t (n - makes x) else cutx x n :: from_ t 0
def none_ : O := ⟨false, 0, 0, []⟩
/-- the operation that bytes begin with, how many it has (0: it is waited for), an error -/
def one (b : List UInt8) (old : Int) : O × Nat × Int :=
  match b with
  | [] => (none_, 0, 0)
  | c :: t =>
    if 1 < c.toNat then (none_, 0, 4) else
    if (Vm.shortest t).2.2 = 4 then (none_, 0, 4) else if (Vm.shortest t).2.2 ≠ 0 then (none_, 0, 0) else
    if c.toNat = 0 then
      if 65536 < (Vm.shortest t).1 then (none_, 0, 5) else if (Vm.shortest t).1 = 0 then (none_, 0, 4) else if (t.drop (Vm.shortest t).2.1).length < (Vm.shortest t).1 then (none_, 0, 0) else
      (lit ((t.drop (Vm.shortest t).2.1).take (Vm.shortest t).1), 1 + (Vm.shortest t).2.1 + (Vm.shortest t).1, 0)
    else
      if (Vm.shortest (t.drop (Vm.shortest t).2.1)).2.2 = 4 then (none_, 0, 4) else if (Vm.shortest (t.drop (Vm.shortest t).2.1)).2.2 ≠ 0 then (none_, 0, 0) else
      if may (cp ((Vm.shortest t).1 : Int) ((Vm.shortest (t.drop (Vm.shortest t).2.1)).1 : Int)) old then (cp ((Vm.shortest t).1 : Int) ((Vm.shortest (t.drop (Vm.shortest t).2.1)).1 : Int), 1 + (Vm.shortest t).2.1 + (Vm.shortest (t.drop (Vm.shortest t).2.1)).2.1, 0) else (none_, 0, 4)
def loop (old : Int) : Nat → List O → Int → List UInt8 → List O × Int × List UInt8 × Int
  | 0, out, m, b => (out, m, b, 0)
  | f + 1, out, m, b =>
    if b.length = 0 then (out, m, b, 0) else
    if (one b old).2.2 ≠ 0 then ([], m, b, (one b old).2.2) else
    if (one b old).2.1 = 0 then (out, m, b, 0) else
    if 65536 - m < makes (one b old).1 then ([], m, b, 5) else
    loop old f (out ++ [(one b old).1]) (m + makes (one b old).1) (b.drop (one b old).2.1)
structure D where
  made : Int
  b : List UInt8
  e : Int
def feed (old : Int) (d : D) (x : List UInt8) : D × List O × Int :=
  if d.e ≠ 0 then (d, [], d.e) else
  if (loop old ((d.b ++ x).length + 1) [] d.made (d.b ++ x)).2.2.2 ≠ 0 then (⟨d.made, d.b, (loop old ((d.b ++ x).length + 1) [] d.made (d.b ++ x)).2.2.2⟩, [], (loop old ((d.b ++ x).length + 1) [] d.made (d.b ++ x)).2.2.2) else
  (⟨(loop old ((d.b ++ x).length + 1) [] d.made (d.b ++ x)).2.1, (loop old ((d.b ++ x).length + 1) [] d.made (d.b ++ x)).2.2.1, 0⟩, (loop old ((d.b ++ x).length + 1) [] d.made (d.b ++ x)).1, 0)
/- operations that may be -/
theorem may_copy {x : O} {old : Int} (hc : x.copy = true) (h : may x old = true) : x.data = [] ∧ 0 ≤ x.pos ∧ 1 ≤ x.n ∧ x.pos + x.n ≤ old := by
  unfold may at h
  rw [if_pos hc] at h
  simp only [Bool.and_eq_true, decide_eq_true_eq] at h
  exact ⟨List.eq_nil_of_length_eq_zero h.1.1.1.1, h.1.1.1.2, h.1.1.2, by omega⟩
theorem may_lit {x : O} {old : Int} (hc : x.copy = false) (h : may x old = true) : 0 < x.data.length ∧ x.pos = 0 ∧ x.n = 0 := by
  unfold may at h
  rw [if_neg (by rw [hc]; simp)] at h
  simp only [Bool.and_eq_true, decide_eq_true_eq] at h
  exact ⟨h.1.1, h.1.2, h.2⟩
theorem may_makes {x : O} {old : Int} (h : may x old = true) : 1 ≤ makes x := by
  unfold makes
  split
  · rename_i hc; exact (may_copy hc h).2.2.1
  · rename_i hc; have := (may_lit (by simpa using hc) h).1; omega
theorem piece_len {x : O} {old : List UInt8} (h : may x old.length = true) : ((piece old x).length : Int) = makes x := by
  unfold piece makes
  split
  · rename_i hc
    have := may_copy hc h
    rw [List.length_take, List.length_drop]
    omega
  · rfl
theorem room_tail {x : O} {t : List O} {r : Int} (h : room (x :: t) r = true) : 0 ≤ r - makes x ∧ room t (r - makes x) = true := by
  unfold room at h
  split at h
  · cases h
  · rename_i h1; exact ⟨by omega, h⟩
theorem room_mono : ∀ (l : List O) (r s : Int), r ≤ s → room l r = true → room l s = true
  | [], _, _, _, _ => rfl
  | x :: t, r, s, h, hr => by
    obtain ⟨h1, h2⟩ := room_tail hr
    unfold room
    rw [if_neg (by omega)]
    exact room_mono t _ _ (by omega) h2
theorem may_cut {x : O} {old : Int} {n : Int} (h : may x old = true) (h0 : 0 < n) (h1 : n < makes x) : may (cutx x n) old = true ∧ makes (cutx x n) = makes x - n := by
  unfold cutx makes at *
  by_cases hc : x.copy = true
  · rw [if_pos hc] at h1 ⊢
    obtain ⟨c1, c2, c3, c4⟩ := may_copy hc h
    refine ⟨?_, by simp [hc]⟩
    unfold may
    simp [c1]
    omega
  · have hc2 : x.copy = false := by simpa using hc
    rw [if_neg hc] at h1 ⊢
    obtain ⟨c1, c2, c3⟩ := may_lit hc2 h
    refine ⟨?_, ?_⟩
    · unfold may
      simp [c2, c3]
      omega
    · simp [hc2]
      omega
theorem piece_cut {x : O} {old : List UInt8} {n : Int} (h : may x old.length = true) (h0 : 0 < n) (h1 : n < makes x) : piece old (cutx x n) = (piece old x).drop n.toNat := by
  unfold cutx piece makes at *
  by_cases hc : x.copy = true
  · rw [if_pos hc] at h1
    obtain ⟨c1, c2, c3, c4⟩ := may_copy hc h
    simp only [hc, if_true]
    rw [List.drop_take, List.drop_drop]
    congr 1
    · omega
    · congr 1; omega
  · simp only [hc, if_false]
    simp
theorem from_ok (old : List UInt8) : ∀ (l : List O) (n r : Int), (∀ x ∈ l, may x old.length = true) → room l r = true →
    (∀ x ∈ from_ l n, may x old.length = true) ∧ room (from_ l n) r = true ∧ (from_ l n).length ≤ l.length ∧ made old (from_ l n) = (made old l).drop n.toNat
  | [], n, r, h, hr => ⟨by simp [from_], by simp [from_, room], Nat.le_refl _, by simp [from_, made]⟩
  | x :: t, n, r, h, hr => by
    have hx := h x (by simp)
    have ht : ∀ y ∈ t, may y old.length = true := fun y hy => h y (by simp [hy])
    obtain ⟨hr1, hr2⟩ := room_tail hr
    have hm := may_makes hx
    have hp := piece_len hx
    unfold from_
    split
    · rename_i hn
      obtain ⟨a1, a2, a3, a4⟩ := from_ok old t n (r - makes x) ht hr2
      refine ⟨fun y hy => ?_, ?_, by simpa using a3, ?_⟩
      · rcases List.mem_cons.1 hy with rfl | hy
        · exact hx
        · exact a1 y hy
      · unfold room; rw [if_neg (by omega)]; exact a2
      · rw [show n.toNat = 0 by omega, List.drop_zero] at a4 ⊢
        simp only [made, List.flatMap_cons] at a4 ⊢
        rw [a4]
    · rename_i hn
      split
      · rename_i hk
        obtain ⟨a1, a2, a3, a4⟩ := from_ok old t (n - makes x) (r - makes x) ht hr2
        refine ⟨a1, room_mono _ _ _ (by omega) a2, by simp only [List.length_cons]; omega, ?_⟩
        rw [a4]
        simp only [made, List.flatMap_cons]
        rw [List.drop_append]
        rw [List.drop_of_length_le (by omega : (piece old x).length ≤ n.toNat), List.nil_append]
        congr 1
        omega
      · rename_i hk
        obtain ⟨c1, c2⟩ := may_cut hx (by omega : 0 < n) (by omega)
        have c3 := piece_cut hx (by omega : 0 < n) (by omega)
        obtain ⟨a1, a2, a3, a4⟩ := from_ok old t 0 (r - makes x) ht hr2
        refine ⟨fun y hy => ?_, ?_, by simpa using a3, ?_⟩
        · rcases List.mem_cons.1 hy with rfl | hy
          · exact c1
          · exact a1 y hy
        · unfold room; rw [if_neg (by omega)]; exact room_mono _ _ _ (by omega) a2
        · have e0 : (0 : Int).toNat = 0 := rfl
          rw [e0, List.drop_zero] at a4
          simp only [made, List.flatMap_cons] at a4 ⊢
          rw [a4, c3, List.drop_append_of_le_length (by omega)]
/-- what is left of operations makes what is left -/
theorem from_law (old : List UInt8) (l : List O) (n : Int) (h : check l old.length = 0) : apply old (from_ l n) = ((made old l).drop n.toNat, 0) := by
  unfold check at h
  split at h
  · omega
  · rename_i h1
    split at h
    · omega
    · rename_i h2
      split at h
      · omega
      · rename_i h3
        have h2' : l.all (may · old.length) = true := by simpa using h2
        obtain ⟨a1, a2, a3, a4⟩ := from_ok old l n 65536 (fun x hx => List.all_eq_true.1 h2' x hx) (by simpa using h3)
        have hc : check (from_ l n) old.length = 0 := by
          unfold check
          rw [if_neg (by omega), if_neg (by rw [List.all_eq_true.2 (fun x hx => a1 x hx)]; simp), if_neg (by rw [a2]; simp)]
        unfold apply
        rw [if_neg (by rw [hc]; simp), a4]
end Dm
end Go.Proofs.YtiofkhjpknfkgaaDoor
/- Operations, one by one, to the program and to the document: whether they may be, and what they make. -/
namespace Go.Proofs.YtiofkhjpknfkgaaDoor
namespace Dl
open Go.RowKit Ba Tm Dm Os_
set_option linter.unusedVariables false
/-- an operation by its cells -/
def opA (c : Bool) (p n : Int) (A : Option Addr) (m k : Nat) : Value := .agg #[.bool c, .int .i64 p, .int .i64 n, .slice A m k]
def mayv (c : Bool) (p n : Int) (m : Nat) (old : Int) : Bool := if c then decide (m = 0) && decide (0 ≤ p) && decide (1 ≤ n) && decide (p ≤ old) && decide (n ≤ old - p) else decide (0 < m) && decide (p = 0) && decide (n = 0)
theorem may_v (x : O) (old : Int) : may x old = mayv x.copy x.pos x.n x.data.length old := rfl
set_option maxHeartbeats 2000000 in
theorem may_calls (c : Bool) (p n : Int) (A : Option Addr) (m k : Nat) (old : Int) (hp : -9223372036854775808 ≤ p ∧ p ≤ 9223372036854775807) (hn : -9223372036854775808 ≤ n ∧ n ≤ 9223372036854775807) (ho : -9223372036854775808 ≤ old ∧ old ≤ 9223372036854775807) (hm : m ≤ 9223372036854775807) (w : World) :
    Calls Tryd.prog 74 #[.agg #[.bool c, .int .i64 p, .int .i64 n, .slice A m k], .int .i64 old] w fun e w' => e = .returned (.bool (mayv c p n m old)) ∧ Below w.heap.size w w' := by
  cases c
  · by_cases h0 : 0 < m
    · by_cases h1 : p = 0
      · by_cases h2 : n = 0
        · have hr : mayv false p n m old = true := by simp [mayv, h0, h1, h2]
          rw [hr]
          clear hr
          go_enter Tryd.func74, Tryd.ntmps74
          go_wp2
          go_ret
          exact ⟨by simp [h0, h1, h2], (Below.refl _ _).alloc (Nat.le_refl _) _⟩
        · have hr : mayv false p n m old = false := by simp [mayv, h0, h1, h2]
          rw [hr]
          clear hr
          go_enter Tryd.func74, Tryd.ntmps74
          go_wp2
          go_ret
          exact ⟨by simp [h0, h1, h2], (Below.refl _ _).alloc (Nat.le_refl _) _⟩
      · have hr : mayv false p n m old = false := by simp [mayv, h0, h1]
        rw [hr]
        clear hr
        go_enter Tryd.func74, Tryd.ntmps74
        go_wp2
        go_ret
        exact ⟨by simp [h0, h1], (Below.refl _ _).alloc (Nat.le_refl _) _⟩
    · have hr : mayv false p n m old = false := by simp [mayv, h0]
      rw [hr]
      clear hr
      go_enter Tryd.func74, Tryd.ntmps74
      go_wp2
      go_ret
      exact ⟨by simp [h0], (Below.refl _ _).alloc (Nat.le_refl _) _⟩
  · by_cases h0 : m = 0
    · by_cases h1 : 0 ≤ p
      · by_cases h2 : 1 ≤ n
        · by_cases h3 : p ≤ old
          · by_cases h4 : n ≤ old - p
            · have hr : mayv true p n m old = true := by simp [mayv, h0, h1, h2, h3, h4]
              rw [hr]
              clear hr
              go_enter Tryd.func74, Tryd.ntmps74
              go_wp2
              go_ret
              exact ⟨by simp [h0, h1, h2, h3, h4], (Below.refl _ _).alloc (Nat.le_refl _) _⟩
            · have hr : mayv true p n m old = false := by simp [mayv, h0, h1, h2, h3, h4]
              rw [hr]
              clear hr
              go_enter Tryd.func74, Tryd.ntmps74
              go_wp2
              go_ret
              exact ⟨by simp [h0, h1, h2, h3, h4], (Below.refl _ _).alloc (Nat.le_refl _) _⟩
          · have hr : mayv true p n m old = false := by simp [mayv, h0, h1, h2, h3]
            rw [hr]
            clear hr
            go_enter Tryd.func74, Tryd.ntmps74
            go_wp2
            go_ret
            exact ⟨by simp [h0, h1, h2, h3], (Below.refl _ _).alloc (Nat.le_refl _) _⟩
        · have hr : mayv true p n m old = false := by simp [mayv, h0, h1, h2]
          rw [hr]
          clear hr
          go_enter Tryd.func74, Tryd.ntmps74
          go_wp2
          go_ret
          exact ⟨by simp [h0, h1, h2], (Below.refl _ _).alloc (Nat.le_refl _) _⟩
      · have hr : mayv true p n m old = false := by simp [mayv, h0, h1]
        rw [hr]
        clear hr
        go_enter Tryd.func74, Tryd.ntmps74
        go_wp2
        go_ret
        exact ⟨by simp [h0, h1], (Below.refl _ _).alloc (Nat.le_refl _) _⟩
    · have hr : mayv true p n m old = false := by simp [mayv, h0]
      rw [hr]
      clear hr
      go_enter Tryd.func74, Tryd.ntmps74
      go_wp2
      go_ret
      exact ⟨by simp [h0], (Below.refl _ _).alloc (Nat.le_refl _) _⟩
set_option maxHeartbeats 400000 in
theorem makes_calls (c : Bool) (p n : Int) (A : Option Addr) (m k : Nat) (w : World) : Calls Tryd.prog 56 #[.agg #[.bool c, .int .i64 p, .int .i64 n, .slice A m k]] w fun e w' => e = .returned (.int .i64 (if c then n else m)) ∧ Below w.heap.size w w' := by
  cases c
  all_goals
    go_enter Tryd.func56, Tryd.ntmps56
    go_wp2
    go_ret
    exact ⟨rfl, (Below.refl _ _).alloc (Nat.le_refl _) _⟩
end Dl
end Go.Proofs.YtiofkhjpknfkgaaDoor
/- Whether operations may be, to the program. -/
namespace Go.Proofs.YtiofkhjpknfkgaaDoor
namespace Dm
open Tm
theorem check_long {l : List O} {old : Int} (h : 4096 < l.length) : check l old = 5 := if_pos h
theorem check_form {l : List O} {old : Int} (h : l.length ≤ 4096) {x : O} (hx : x ∈ l) (hm : may x old = false) : check l old = 4 := by
  unfold check
  rw [if_neg (by omega), if_pos]
  exact List.all_eq_false.2 ⟨x, hx, by rw [hm]; simp⟩
theorem check_room {l : List O} {old : Int} (h : l.length ≤ 4096) (hm : ∀ x ∈ l, may x old = true) : check l old = if room l 65536 = false then 5 else 0 := by
  unfold check
  rw [if_neg (by omega), if_neg (by rw [List.all_eq_true.2 hm]; simp)]
theorem room_at (l : List O) (k : Nat) (r : Int) (h : k < l.length) : room (l.drop k) r = if r - makes (at_ l k) < 0 then false else room (l.drop (k + 1)) (r - makes (at_ l k)) := by
  rw [drop_at l k h]
  rfl
theorem room_end (l : List O) (k : Nat) (r : Int) (h : l.length ≤ k) : room (l.drop k) r = true := by rw [List.drop_of_length_le h]; rfl
theorem check_ok {l : List O} {old : Int} (h : check l old = 0) : l.length ≤ 4096 ∧ (∀ x ∈ l, may x old = true) ∧ room l 65536 = true := by
  unfold check at h
  split at h
  · omega
  · split at h
    · omega
    · rename_i h2
      split at h
      · omega
      · rename_i h3
        exact ⟨by omega, List.all_eq_true.1 (by simpa using h2), by simpa using h3⟩
end Dm
namespace Dl
open Go.RowKit Ba Tm Dm Os_
set_option linter.unusedVariables false
theorem ops_at (L : List Ow) (k : Nat) (h : k < L.length) : at_ (ops L) k = (oat L k).1 := by simp [at_, ops, oat, List.getD, h]
theorem op_cells {w : World} {g : Nat} {t : TypeId} {c : Bool} {p n : Int} {A : Option Addr} {m k : Nat} (h : Blk w g t #[.bool c, .int .i64 p, .int .i64 n, .slice A m k]) :
    w.cell? ⟨g, 0, none⟩ = some (.bool c) ∧ w.cell? ⟨g, 1, none⟩ = some (.int .i64 p) ∧ w.cell? ⟨g, 2, none⟩ = some (.int .i64 n) ∧ w.cell? ⟨g, 3, none⟩ = some (.slice A m k) ∧ w.rangeAt g 0 [.bool c, .int .i64 p, .int .i64 n, .slice A m k] := by
  refine ⟨by rw [Blk.cell h]; rfl, by rw [Blk.cell h]; rfl, by rw [Blk.cell h]; rfl, by rw [Blk.cell h]; rfl, fun j v hv => ?_⟩
  rw [Blk.cell h, Nat.zero_add]
  simpa using hv
/-- one operation of a row, opened -/
theorem ReadO.op {w : World} {B : Nat} {A : Option Addr} {L : List Ow} (h : ReadO w B A L) {k : Nat} (hk : k < L.length) : ∃ b o c p n d D e, A = some ⟨b, o, none⟩ ∧ b < B ∧ oat L k = (⟨c, p, n, d⟩, D, e) ∧ w.rangeAt b (o + k * 4) [.bool c, .int .i64 p, .int .i64 n, .slice D d.length e] ∧ (-9223372036854775808 ≤ p ∧ p ≤ 9223372036854775807) ∧ (-9223372036854775808 ≤ n ∧ n ≤ 9223372036854775807) ∧ d.length ≤ e ∧ e ≤ 9223372036854775807 ∧ ReadB w B D d := by
  obtain ⟨b, o, e, hb, hc⟩ := h.1.at_ (oat_get hk)
  have hw := h.2 _ (oat_mem hk)
  generalize oat L k = x at hc hw ⊢
  obtain ⟨⟨c, p, n, d⟩, D, e2⟩ := x
  exact ⟨b, o, _, _, _, _, _, _, e, hb, rfl, hc, hw⟩
set_option maxRecDepth 100000 in
set_option maxHeartbeats 4000000 in
theorem check_calls (L : List Ow) (A : Option Addr) (n c : Nat) (old : Int) (hn : n = L.length) (hl : n ≤ 9223372036854775807) (ho : -9223372036854775808 ≤ old ∧ old ≤ 9223372036854775807) (w : World) (h : ReadO w w.heap.size A L) :
    Calls Tryd.prog 60 #[.slice A n c, .int .i64 old] w fun e w' => e = .returned (.int .i64 (check (ops L) old)) ∧ Below w.heap.size w w' := by
  have hol : (ops L).length = n := by rw [ops_len, hn]
  by_cases hlong : 4096 < n
  · have hr : check (ops L) old = 5 := check_long (by omega)
    rw [hr]
    clear hr
    go_enter Tryd.func60, Tryd.ntmps60
    go_wp2
    go_ret
    exact ⟨rfl, Below.refl _ _⟩
  · have Hh := Lib.hid h
    have Hol := Lib.hid hol
    have Hn := Lib.hid hn
    clear h hol hn
    go_enter Tryd.func60, Tryd.ntmps60
    go_wp2_with fail
    go_loopg [15] n (fun q v15 wr => ∃ k : Nat, k ≤ n ∧ q = n - k ∧ v15 = .int .i64 (k : Int) ∧ (∀ j, j < k → may (at_ (ops L) j) old = true) ∧ Below w.heap.size w wr)
    case atStart => exact ⟨0, by omega, rfl, rfl, by omega, Below.refl _ _⟩
    case round =>
      obtain ⟨k, hk, hq, rfl, hall, hb⟩ := hrel
      have Hq := Lib.hid hq
      have Hall := Lib.hid hall
      have HB := Lib.hid hb
      clear hq hall hb
      by_cases hkn : k < n
      · have hkl : k < L.length := by rw [← Hn.out]; exact hkn
        obtain ⟨b, o, x1, x2, x3, x4, D, e, rfl, hbB, hx, hc, w1, w2, w3, w4, w5⟩ := ReadO.op Hh.out hkl
        have hat := ops_at L k hkl
        rw [hx] at hat
        have HC : Hid (wr.rangeAt b (o + k * 4) [.bool x1, .int .i64 x2, .int .i64 x3, .slice D x4.length e]) := Lib.hid fun jj v hv => (HB.out.cell (p := ⟨b, o + k * 4 + jj, none⟩) hbB).trans (hc jj v hv)
        have hmay := fun w => may_calls x1 x2 x3 D x4.length e old w1 w2 ho (by omega) w
        have hmv : may (at_ (ops L) k) old = mayv x1 x2 x3 x4.length old := by rw [hat]; rfl
        have Hmv := Lib.hid hmv
        have Hm := Lib.hid hmay
        clear hx hc w5 hat hmay hmv
        go_wp2_with (refine wpList_load_mid rfl 40 (.tmp 17) rfl b (o + k * 4) rfl [.bool x1, .int .i64 x2, .int .i64 x3, .slice D x4.length e] _ HC.out Tryd.underlying40 rfl (by kernel_rfl) ?_)
        refine (Hm.out _).mono ?_
        rintro e1 w1' ⟨rfl, hb1⟩
        have HB1 := Lib.hid (HB.out.trans (((Below.refl _ _).alloc (Nat.le_refl _) _).trans (hb1.mono (by simp)) |>.mono HB.out.size))
        clear hb1 Hm HC
        by_cases hv : mayv x1 x2 x3 x4.length old = true
        · rw [hv]
          have Hv := Lib.hid hv
          clear hv
          go_wp2_with fail
          go_roundg (n - (k + 1))
          case rel => exact ⟨k + 1, by omega, rfl, rfl, fun j hj => by
            rcases Nat.lt_or_ge j k with h1 | h1
            · exact Hall.out j h1
            · rw [show j = k by omega, Hmv.out, Hv.out], HB1.out⟩
          case measure => have := Hq.out; omega
        · have hv2 : mayv x1 x2 x3 x4.length old = false := by simpa using hv
          have hr : check (ops L) old = 4 := check_form (by rw [Hol.out]; omega) (mem_at _ k (by rw [Hol.out]; exact hkn)) (by rw [Hmv.out, hv2])
          rw [hv2]
          have HR := Lib.hid hr
          clear hv hv2 hr
          go_wp2
          go_ret
          exact ⟨by rw [HR.out]; rfl, HB1.out⟩
      · have hke : k = n := by omega
        subst hke
        have hmm : ∀ x ∈ ops L, may x old = true := fun x hx => by
          obtain ⟨j, hj, e⟩ := List.getElem_of_mem hx
          have := Hall.out j (by rw [← Hol.out]; exact hj)
          rw [at_, List.getD_eq_getElem?_getD, List.getElem?_eq_getElem hj] at this
          rw [← e]
          exact this
        have hr := check_room (by rw [Hol.out]; omega) hmm
        have HR := Lib.hid hr
        have Hmm := Lib.hid hmm
        clear hr hkn hmm Hq Hall
        go_wp2_with fail
        go_loopg [7, 26] k (fun q v7 v26 wr => ∃ (j : Nat) (r : Int), j ≤ k ∧ q = k - j ∧ v26 = .int .i64 (j : Int) ∧ v7 = .int .i64 r ∧ 0 ≤ r ∧ r ≤ 65536 ∧ room ((ops L).drop j) r = room (ops L) 65536 ∧ Below w.heap.size w wr)
        case atStart => exact ⟨0, 65536, by omega, rfl, rfl, rfl, by omega, by omega, rfl, HB.out⟩
        case round =>
          obtain ⟨j, r, hj, hq, rfl, rfl, hr0, hr1, hrm, hb⟩ := hrel
          have Hq := Lib.hid hq
          have Hrm := Lib.hid hrm
          have HB := Lib.hid hb
          clear hq hrm hb
          by_cases hjk : j < k
          · have hkl : j < L.length := by rw [← Hn.out]; exact hjk
            obtain ⟨b, o, x1, x2, x3, x4, D, e, rfl, hbB, hx, hc, w1, w2, w3, w4, w5⟩ := ReadO.op Hh.out hkl
            have hat := ops_at L j hkl
            rw [hx] at hat
            have HC : Hid (wr.rangeAt b (o + j * 4) [.bool x1, .int .i64 x2, .int .i64 x3, .slice D x4.length e]) := Lib.hid fun jj v hv => (HB.out.cell (p := ⟨b, o + j * 4 + jj, none⟩) hbB).trans (hc jj v hv)
            have hmk := fun w => makes_calls x1 x2 x3 D x4.length e w
            have hmv : makes (at_ (ops L) j) = if x1 then x3 else (x4.length : Int) := by rw [hat]; rfl
            have hra := room_at (ops L) j r (by rw [Hol.out]; exact hjk)
            have hm1 := may_makes (Hmm.out _ (mem_at (ops L) j (by rw [Hol.out]; exact hjk)))
            have hm2 : makes (at_ (ops L) j) ≤ 9223372036854775807 := by rw [hmv]; split <;> omega
            rw [← hmv] at hmk
            generalize makes (at_ (ops L) j) = m at *
            have Hra := Lib.hid hra
            have Hmk := Lib.hid hmk
            clear hx hc w5 hat hmk hmv hra
            go_wp2_with (refine wpList_load_mid rfl 40 (.tmp 28) rfl b (o + j * 4) rfl [.bool x1, .int .i64 x2, .int .i64 x3, .slice D x4.length e] _ HC.out Tryd.underlying40 rfl (by kernel_rfl) ?_)
            refine (Hmk.out _).mono ?_
            rintro e1 w1' ⟨rfl, hb1⟩
            have HB1 := Lib.hid (HB.out.trans (((Below.refl _ _).alloc (Nat.le_refl _) _).trans (hb1.mono (by simp)) |>.mono HB.out.size))
            clear hb1 Hmk HC
            by_cases hv : r - m < 0
            · have h0 : room (ops L) 65536 = false := by rw [← Hrm.out, Hra.out, if_pos hv]
              have H0 := Lib.hid h0
              clear h0
              go_wp2
              go_ret
              exact ⟨by rw [HR.out, if_pos H0.out]; rfl, HB1.out⟩
            · have h0 : room ((ops L).drop (j + 1)) (r - m) = room (ops L) 65536 := by rw [← Hrm.out, Hra.out, if_neg hv]
              have H0 := Lib.hid h0
              clear h0
              go_wp2_with fail
              go_roundg (k - (j + 1))
              case rel => exact ⟨j + 1, r - m, by omega, rfl, rfl, by go_num, by omega, by omega, H0.out, HB1.out⟩
              case measure => have := Hq.out; omega
          · have hje : j = k := by omega
            have h0 : room (ops L) 65536 = true := by rw [← Hrm.out]; exact room_end _ _ _ (by rw [Hol.out]; omega)
            have H0 := Lib.hid h0
            clear h0
            go_wp2
            go_ret
            exact ⟨by rw [HR.out, if_neg (by rw [H0.out]; simp)]; rfl, HB.out⟩
end Dl
end Go.Proofs.YtiofkhjpknfkgaaDoor
/- What the program tells of a number of the wire: its width, and what bytes begin with. -/
namespace Go.Proofs.YtiofkhjpknfkgaaDoor
namespace Vi
open Go.RowKit Ba Vm
set_option linter.unusedVariables false

theorem widths_calls (w : World) : Calls Tryd.prog 91 #[] w fun e w' => e = .returned (.agg #[.int .i64 1, .int .i64 2, .int .i64 4, .int .i64 8]) ∧ Below w.heap.size w w' := by
  go_enter Tryd.func91, Tryd.ntmps91
  go_wp2
  exact bodyPost_ret (v := .agg #[.int .i64 1, .int .i64 2, .int .i64 4, .int .i64 8]) (by simp [results, Tryd.results91, go_sem]) rfl ⟨rfl, (Below.refl _ _).alloc (Nat.le_refl _) _⟩

theorem ret_bool {a b : Bool} (h : a = b) : Ending.returned (.bool a) = .returned (.bool b) := by rw [h]
theorem ret_int {k : IntKind} {a b : Int} (h : a = b) : Ending.returned (.int k a) = .returned (.int k b) := by rw [h]

theorem fits_yes (n : Int) (k : Nat) (hn : 0 ≤ n) (hk : W4 k) (h : n < lim k) (w : World) : Calls Tryd.prog 92 #[.int .i64 n, .int .i64 k] w fun e w' => e = .returned (.bool true) ∧ w = w' := by
  rcases hk with rfl | rfl | rfl | rfl
  all_goals
    simp only [lim] at h
    have hn2 : n ≤ 9223372036854775807 := by omega
    go_enter Tryd.func92, Tryd.ntmps92
    go_wp2
    go_ret
    exact ⟨ret_bool (by first | (simp; done) | (simp; omega)), rfl⟩
theorem fits_no (n : Int) (k : Nat) (hn2 : n ≤ 9223372036854775807) (hk : W4 k) (h : n < 0 ∨ lim k ≤ n) (w : World) : Calls Tryd.prog 92 #[.int .i64 n, .int .i64 k] w fun e w' => e = .returned (.bool false) ∧ w = w' := by
  rcases hk with rfl | rfl | rfl | rfl
  all_goals
    simp only [lim] at h
    rcases h with h | h
    · go_enter Tryd.func92, Tryd.ntmps92
      go_wp2
      go_ret
      exact ⟨rfl, rfl⟩
    · go_enter Tryd.func92, Tryd.ntmps92
      go_wp2
      go_ret
      exact ⟨ret_bool (by simp; omega), rfl⟩

set_option maxRecDepth 100000 in
set_option maxHeartbeats 400000 in
theorem len_calls (n : Int) (hn : n ≤ 9223372036854775807) (w : World) : Calls Tryd.prog 87 #[.int .i64 n] w fun e w' => e = .returned (.int .i64 (len n : Int)) ∧ Below w.heap.size w w' := by
  go_enter Tryd.func87, Tryd.ntmps87
  go_wp2_with (go_at_call 91; refine (widths_calls _).mono ?_; rintro e w1 ⟨rfl, hb1⟩)
  go_loop [6] (fun i => ∃ k : Nat, k ≤ 4 ∧ i = .int .i64 k ∧ (0 < k → n < 0 ∨ lim (2 ^ (k - 1)) ≤ n)) (fun i => 4 - (intOf i).toNat)
  case atStart => exact ⟨0, by omega, rfl, by omega⟩
  case round =>
    obtain ⟨k, hk, rfl, hp⟩ := hrel
    by_cases h4 : k = 4
    · subst h4
      go_wp2
      go_ret
      exact ⟨ret_int (by rw [len_none n (by have := hp (by omega); simpa [lim] using this)]; rfl), hb1⟩
    · have hw : W4 (2 ^ k) := by
        unfold W4
        have : k = 0 ∨ k = 1 ∨ k = 2 ∨ k = 3 := by omega
        rcases this with rfl | rfl | rfl | rfl <;> simp
      have hx : ∀ w : World, (Instr.index 147 (.agg #[.int .i64 1, .int .i64 2, .int .i64 4, .int .i64 8]) (.int .i64 (k : Int))).run Tryd.prog w = .ok (.int .i64 ((2 ^ k : Nat) : Int)) w := by
        have : k = 0 ∨ k = 1 ∨ k = 2 ∨ k = 3 := by omega
        rcases this with rfl | rfl | rfl | rfl <;> exact fun _ => by kernel_rfl
      by_cases hc : 0 ≤ n ∧ n < lim (2 ^ k)
      · go_wp2_with (go_at_call 92; refine (fits_yes n (2 ^ k) hc.1 hw hc.2 _).mono ?_; rintro e w' ⟨rfl, rfl⟩)
        go_ret
        exact ⟨ret_int (by rw [len_pow n k (by omega) hc.1 hc.2 hp]; rfl), hb1⟩
      · go_wp2_with (go_at_call 92; refine (fits_no n (2 ^ k) hn hw (by omega) _).mono ?_; rintro e w' ⟨rfl, rfl⟩)
        go_round
        case rel => exact ⟨k + 1, by omega, by go_num, fun _ => by simp; omega⟩
        case measure => simp [intOf]; omega

set_option maxRecDepth 100000 in
set_option maxHeartbeats 400000 in
theorem tell_calls (d : Int) (w : World) : Calls Tryd.prog 93 #[.int .i64 d] w fun e w' => e = .returned (.int .i64 (tell d)) ∧ Below w.heap.size w w' := by
  go_enter Tryd.func93, Tryd.ntmps93
  go_wp2_with (go_at_call 91; refine (widths_calls _).mono ?_; rintro e w1 ⟨rfl, hb1⟩)
  go_loop [6] (fun i => ∃ k : Nat, k ≤ 4 ∧ i = .int .i64 k ∧ (∀ j : Nat, j < k → d ≠ ((2 ^ j : Nat) : Int))) (fun i => 4 - (intOf i).toNat)
  case atStart => exact ⟨0, by omega, rfl, by omega⟩
  case round =>
    obtain ⟨k, hk, rfl, hp⟩ := hrel
    by_cases h4 : k = 4
    · subst h4
      have ht := Lib.hid (tell_none d hp)
      clear hp
      go_wp2
      go_ret
      exact ⟨ret_int (by rw [ht.out]), hb1⟩
    · have hx : ∀ w : World, (Instr.index 147 (.agg #[.int .i64 1, .int .i64 2, .int .i64 4, .int .i64 8]) (.int .i64 (k : Int))).run Tryd.prog w = .ok (.int .i64 ((2 ^ k : Nat) : Int)) w := by
        have : k = 0 ∨ k = 1 ∨ k = 2 ∨ k = 3 := by omega
        rcases this with rfl | rfl | rfl | rfl <;> exact fun _ => by kernel_rfl
      have Hp := Lib.hid hp
      clear hp
      by_cases hc : d = ((2 ^ k : Nat) : Int)
      · subst hc
        go_wp2
        go_ret
        exact ⟨ret_int (by have := tell_pow k (by omega); simpa using this.symm), hb1⟩
      · obtain ⟨x, hX⟩ : ∃ x : Int, x = ((2 ^ k : Nat) : Int) := ⟨_, rfl⟩
        rw [← hX] at hc hx
        have hcb : (x == d) = false := by rw [beq_eq_false_iff_ne]; exact fun h => hc h.symm
        have HX := Lib.hid hX
        clear hX
        go_wp2
        have hk1 : k + 1 ≤ 4 := by clear hcb; omega
        refine ⟨⟨k + 1, hk1, by go_num, fun j hj => ?_⟩, by simp [intOf]; clear hcb; omega⟩
        rcases Nat.lt_or_ge j k with h | h
        · exact Hp.out j h
        · have : j = k := by clear hcb; omega
          subst this; rw [← HX.out]; exact hc

set_option maxHeartbeats 400000 in
theorem get_calls (l : List UInt8) (A : Option Addr) (c B : Nat) (w : World) (h : ReadB w B A l) (hlc : l.length ≤ c) (hcm : c ≤ 9223372036854775807) :
    Calls Tryd.prog 90 #[.slice A l.length c] w fun e w' => e = .returned (.tuple #[.int .i64 (get l).1, .int .i64 (get l).2.1, .int .i64 (get l).2.2]) ∧ w = w' := by
  rcases l with _ | ⟨b, r⟩
  · go_enter Tryd.func90, Tryd.ntmps90
    go_wp2
    go_ret3
    exact ⟨rfl, rfl⟩
  · obtain ⟨ab, ao, rfl, hb, hc0⟩ := h.head (by simp)
    simp only [List.getD_cons_zero] at hc0
    have hb8 := u8_lt b
    have hn : r.length + 1 ≤ c := hlc
    have hq : (b.toNat : Int) / 64 = 0 ∨ (b.toNat : Int) / 64 = 1 ∨ (b.toNat : Int) / 64 = 2 ∨ (b.toNat : Int) / 64 = 3 := by omega
    have hw : w8 b = 2 ^ ((b.toNat : Int) / 64).toNat := by unfold w8; congr 1
    rcases hq with hq | hq | hq | hq
    all_goals
      rw [hq] at hw
      simp at hw
      by_cases hlt : (b :: r).length < w8 b
      · have hg := Lib.hid (get_lt b r hlt)
        rw [hw, List.length_cons] at hlt
        clear hw
        go_enter Tryd.func90, Tryd.ntmps90
        go_wp2
        all_goals
          go_ret3
          exact ⟨by rw [hg.out]; rfl, rfl⟩
      · have hg := Lib.hid (get_ge b r hlt)
        rw [hw, List.length_cons] at hlt
        go_enter Tryd.func90, Tryd.ntmps90
        by_cases hc1 : c = 1
        all_goals try (exfalso; omega)
        all_goals
          go_wp2
          go_loop [2, 29] (fun n i => ∃ k : Nat, k + 1 ≤ w8 b ∧ i = .int .i64 k ∧ n = .int .i64 (val (b.toNat % 64) (r.take k))) (fun _ i => 8 - (intOf i).toNat)
          case atStart => exact ⟨0, by omega, rfl, by simp [val]⟩
          case round =>
            obtain ⟨k, hk, rfl, rfl⟩ := hrel
            by_cases hkw : k + 1 < w8 b
            · have hce : w.cell? ⟨ab, ao + 1 + k, none⟩ = some (.int .u8 ((r.getD k 0).toNat : Int)) := by
                obtain ⟨_, _, e1, _, h2⟩ := h (by simp)
                injection e1 with e1
                injection e1 with e1 e2
                subst e1 e2
                have := h2 (1 + k) (by simp; omega)
                rw [← Nat.add_assoc, Nat.add_comm 1 k] at this
                exact this
              have hv := val_small b r k (by omega)
              have hvs := Lib.hid (val_snoc (b.toNat % 64) r k (by omega))
              have hc8 := u8_lt (r.getD k 0)
              generalize val (b.toNat % 64) (r.take k) = V at hv hvs
              generalize (r.getD k 0).toNat = Cc at hce hvs hc8
              go_wp2
              all_goals
                refine ⟨⟨k + 1, by omega, by go_num, ?_⟩, by simp [intOf]; omega⟩
                rw [hvs.out, or_byte V Cc hv hc8.1]
            · go_wp2
              all_goals
                go_ret3
                have hk1 : k = w8 b - 1 := by omega
                subst hk1
                exact ⟨by rw [hg.out, hw]; rfl, rfl⟩

end Vi
end Go.Proofs.YtiofkhjpknfkgaaDoor

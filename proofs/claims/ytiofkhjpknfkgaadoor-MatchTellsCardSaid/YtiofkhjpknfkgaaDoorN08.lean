/- The sums of a file's blocks, of the program. -/
import Derived.Test.YtiofkhjpknfkgaaDoorN01
import Derived.Test.YtiofkhjpknfkgaaDoorN02
import Derived.Test.YtiofkhjpknfkgaaDoorN03
import Derived.Test.YtiofkhjpknfkgaaDoorN04
import Derived.Test.YtiofkhjpknfkgaaDoorN05
import Derived.Test.YtiofkhjpknfkgaaDoorN06
import Derived.Test.YtiofkhjpknfkgaaDoorN07
import Derived.Test.YtiofkhjpknfkgaaDoorProg
import Derived.KernelRfl
namespace Go.Proofs.YtiofkhjpknfkgaaDoor
namespace Bk
open Go.RowKit Ba Sm Ro
set_option linter.unusedVariables false
set_option maxRecDepth 100000 in
set_option maxHeartbeats 2000000 in
theorem sign_calls (b : List UInt8) (size : Int) (A : Option Addr) (c : Nat) (w : World) (hr : ReadB w w.heap.size A b) (hbc : b.length ≤ c) (hcm : c ≤ 9223372036854775807) (hsz : -9223372036854775808 ≤ size ∧ size ≤ 9223372036854775807) (htab : Tab w) :
    Calls Tryd.prog 22 #[.slice A b.length c, .int .i64 size] w
      fun e w' => ∃ v, e = .returned (.tuple #[v, .int .i64 (sign size b).2]) ∧ OwnRow sgv 33 w' w.heap.size 60 v (sign size b).1 ∧ Below w.heap.size w w' := by
  by_cases h1 : 1 ≤ size ∧ size ≤ 4096
  · obtain ⟨z, rfl⟩ : ∃ z : Nat, size = (z : Int) := ⟨size.toNat, by omega⟩
    have hm := may_calls (z : Int) true (by simp; omega)
    have Hm := Lib.hid hm
    clear hm
    by_cases h2 : b.length ≤ 65536 ∧ b.length / z ≤ 4096
    · have hs : sign (z : Int) b = (signK z b (b.length / z), 0) := by unfold sign; rw [if_neg (by omega), if_neg (by simp; omega)]; simp
      rw [hs]
      obtain ⟨n, hn⟩ : ∃ n, n = b.length / z := ⟨_, rfl⟩
      rw [← hn] at h2 ⊢
      have hnz : n * z ≤ b.length := by rw [hn]; exact Nat.div_mul_le_self _ _
      have hnz2 : b.length < n * z + z := by rw [hn]; have h5 := Nat.div_add_mod b.length z; have h6 := Nat.mod_lt b.length (show z > 0 by omega); rw [Nat.mul_comm] at h5; omega
      have hdiv : (b.length : Int).tdiv (z : Int) = (n : Int) := by rw [hn]; exact Int.ofNat_tdiv _ _ |>.symm
      have hz0 : (z : Int) ≠ 0 := by omega
      obtain ⟨i0, hi0⟩ := isRec_of infoSig
      have Hi := Lib.hid hi0
      have Hr := Lib.hid hr
      have Htab := Lib.hid htab
      have Hnz := Lib.hid hnz
      have Hnz2 := Lib.hid hnz2
      have Hn := Lib.hid hn
      clear hi0 hr htab hnz hnz2 hn hs
      go_enter Tryd.func22, Tryd.ntmps22
      go_wp2_with (go_at_call 53; refine (Hm.out _).mono ?_; rintro e w1 ⟨rfl, rfl⟩)
      go_loopg [0, 6] n (fun m v0 v6 wr => ∃ (k : Nat) (A' : Option Addr) (c' : Nat) (r : List UInt8), k ≤ n ∧ m = n - k ∧ r = b.drop (k * z) ∧ v0 = .slice A' r.length c' ∧ r.length ≤ c' ∧ c' ≤ 9223372036854775807 ∧ ReadB w w.heap.size A' r ∧ OwnRow sgv 33 wr w.heap.size 60 v6 (signK z b k) ∧ Below w.heap.size w wr)
      case atStart => exact ⟨0, A, c, b, by omega, rfl, by simp, rfl, hbc, hcm, Hr.out, OwnRow.nil, Below.refl _ _⟩
      case round =>
        obtain ⟨k, A', c', r, hk, hm, hrd, rfl, hrc, hcc, hrA, ho, hb⟩ := hrel
        have hrl : r.length = b.length - k * z := by rw [hrd, List.length_drop]
        have Hm2 := Lib.hid hm
        have Hrd := Lib.hid hrd
        have HrA := Lib.hid hrA
        have Ho := Lib.hid ho
        have Hb := Lib.hid hb
        have Hrl := Lib.hid hrl
        have hr64 : r.length ≤ 65536 := by omega
        clear hm hrd hrA ho hb hrl Hr
        by_cases hkn : k < n
        · have hzr : z ≤ r.length := by
            have e1 : (k + 1) * z ≤ n * z := Nat.mul_le_mul_right z hkn
            rw [Nat.add_mul, Nat.one_mul] at e1
            have := Hnz.out
            have := Hrl.out
            omega
          have t1 : decide ((z : Int) ≤ (r.length : Int)) = true := by rw [decide_eq_true_eq]; omega
          have i1 : (0 : Int) ≤ (z : Int) := by omega
          have i2 : (z : Int) ≤ (c' : Int) := by omega
          have i3 : (z : Int) ≤ (r.length : Int) := by omega
          have Hx : Hid (ReadB wr.drew w.heap.size A' (r.take z)) := Lib.hid ((HrA.out.below Hb.out).take z)
          have Hfl : Hid ([r.take z].flatten = r.take z) := Lib.hid (by simp)
          have hba := (Below.refl wr.drew.heap.size wr.drew).alloc (Nat.le_refl _) (.cells #[.slice A' z c'] 22)
          have Hbb : Hid (ReadBB (wr.drew.alloc (.cells #[.slice A' z c'] 22)) (wr.drew.alloc (.cells #[.slice A' z c'] 22)).heap.size (some ⟨wr.drew.heap.size, 0, none⟩) [r.take z]) := Lib.hid ((ReadBB.lit1 wr.drew 22 A' z c' (r.take z) w.heap.size wr.drew.heap.size rfl Hb.out.size (by rw [List.length_take]; omega) Hx.out (by rw [List.length_take]; omega) hcc).more (by simp))
          have Htab1 : Hid (Tab (wr.drew.alloc (.cells #[.slice A' z c'] 22))) := Lib.hid (Htab.out.below ((Hb.out.drew).alloc (by simpa using Hb.out.size) _))
          have Ho := Lib.hid Ho.out.drew
          have Hb := Lib.hid Hb.out.drew
          obtain ⟨x1, hx1⟩ : ∃ x1, rsum (r.take z) = x1 := ⟨_, rfl⟩
          obtain ⟨x2, hx2⟩ : ∃ x2, sha (r.take z) = x2 := ⟨_, rfl⟩
          have Hl2 : Hid (x2.length = 32) := Lib.hid (by rw [← hx2]; exact hash_len _)
          have Hx1 := Lib.hid hx1
          have Hx2 := Lib.hid hx2
          clear hx1 hx2
          go_wp2_with fail
          refine CanT.region (fun _ => True) 1000 (.op 0 2 (.op 1 2 (.op 2 2 (.op 3 2 (.op 5 2 (.op 6 2 (.op 7 2 (.fork (.op 4 0 (.op 8 0 (.op 9 0 (.op 10 2 (.op 11 0 (.op 12 0 (.op 13 2 (.nil)))))))) (.op 8 0 (.op 4 0 (.op 9 0 (.op 10 2 (.op 11 0 (.op 12 0 (.op 13 2 (.nil)))))))))))))))) (by kernel_rfl) (by kernel_rfl) trivial ?_
          generalize wr.drew = wr at *
          repeat (first | (refine CanT.skip rfl ?_ (fun K hK => ?_); (focus (go_simp; done)); go_simp; refine hK _ ?_; clear hK K) | (refine CanT.pur rfl ?_ ?_; (focus (go_simp; done)); refine ⟨?_, ?_, ?_⟩; rotate_left; (focus (intro w'; go_simp; rfl)); (focus (intro K hK; go_simp; refine hK _ ?_; clear hK K))))
          refine CanT.both ?_ ?_
          · refine CanT.imp rfl (fun K hK => ?_)
            go_simp
            refine (sum_calls (l := r.take z) (by rw [List.length_take]; omega) Hx.out (by rw [List.length_take]; omega)).mono ?_
            rw [Hx1.out]
            rintro e w1 ⟨rfl, rfl⟩
            (try go_simp)
            refine hK.out _ _ (trivial) ?_
            clear hK K
            refine CanT.imp rfl (fun K hK => ?_)
            go_simp
            refine hK.out _ _ (trivial) ?_
            clear hK K
            refine CanT.imp rfl (fun K hK => ?_)
            go_simp
            refine (of_calls [r.take z] (some ⟨wr.heap.size, 0, none⟩) 1 _ (Hbb.out) (Htab1.out) (by simp) (by omega) (by intro p hp; simp at hp; subst hp; rw [List.length_take]; omega) (by simp; omega)).mono ?_
            rw [Hfl.out, Hx2.out]
            rintro e w2 ⟨rfl, hb2⟩
            have hb2' := hba.trans (hb2.mono (by simp))
            have Ho2 := Lib.hid (Ho.out.keptB hb2')
            have Hb2 := Lib.hid (Hb.out.trans (hb2'.mono Hb.out.size))
            clear hb2 hb2'
            (try go_simp)
            refine hK.out _ _ (trivial) ?_
            clear hK K
            repeat (first | (refine CanT.skip rfl ?_ (fun K hK => ?_); (focus (go_simp; done)); go_simp; refine hK _ ?_; clear hK K) | (refine CanT.pur rfl ?_ ?_; (focus (go_simp; done)); refine ⟨?_, ?_, ?_⟩; rotate_left; (focus (intro w'; go_simp; rfl)); (focus (intro K hK; go_simp; refine hK _ ?_; clear hK K))) | (refine CanT.bld rfl ?_ 60 _ rfl #[(0, .int .u32 (x1 : Int)), (1, .agg (bvs x2).toArray)] rfl _ (fun w' => run_sig x1 x2 Hl2.out w') (fun K hK => ?_); (focus (go_simp; done)); go_simp; refine hK _ ?_; clear hK K))
            refine CanT.imp rfl (fun K hK => ?_)
            refine step_bslice _ ?_ 27 60 1 _ rfl Tryd.underlying27 i0 33 36 Hi.out (by omega) (by omega) [(0, .agg (sgv (x1, x2)).toArray)] rfl (sgv (x1, x2)) (fun Z hZ => fill_one 33 (.agg (sgv (x1, x2)).toArray) (sgv_len Hl2.out) Z hZ) ?_
            focus (go_simp; done)
            (try go_simp)
            refine hK.out _ _ (trivial) ?_
            clear hK K
            refine CanT.imp rfl (fun K hK => ?_)
            refine step_appR _ ?_ (.tmp 29) (.tmp 40) 27 rfl w.heap.size 60 i0 36 Tryd.underlying27 Hi.out (by omega) _ _ rfl (Ho2.out.alloc _) _ _ 1 1 [(x1, x2)] rfl rfl (ReadRow.lit1 w2 60 _ (x1, x2) rfl (sgv_len Hl2.out) (sgv_one _)) (by rw [signK_len]; simp; omega) (by rw [signK_len]; simp; omega) (by have := Hb2.out.size; simp; omega) ?_
            focus (go_simp; done)
            intro v3 w3 ho3 _ _ hb3
            have Ho3 := Lib.hid ho3
            have Hb3 := Lib.hid ((Hb2.out.alloc Hb2.out.size _).trans hb3)
            clear ho3 hb3
            (try go_simp)
            refine hK.out _ _ (trivial) ?_
            clear hK K
            repeat (first | (refine CanT.skip rfl ?_ (fun K hK => ?_); (focus (go_simp; done)); go_simp; refine hK _ ?_; clear hK K) | (refine CanT.pur rfl ?_ ?_; (focus (go_simp; done)); refine ⟨?_, ?_, ?_⟩; rotate_left; (focus (intro w'; go_simp; rfl)); (focus (intro K hK; go_simp; refine hK _ ?_; clear hK K))))
            refine CanT.done ?_
            have hnext : ∀ (A2 : Option Addr) (c2 : Nat), A2 = (if c' = z then A' else A'.map (·.add z)) → c2 = c' - z → ∃ r2, r2 = b.drop ((k + 1) * z) ∧ r2.length = r.length - z ∧ r2.length ≤ c2 ∧ c2 ≤ 9223372036854775807 ∧ ReadB w w.heap.size A2 r2 := by
              intro A2 c2 hA2 hc2
              refine ⟨r.drop z, by rw [Hrd.out, List.drop_drop, Nat.add_mul, Nat.one_mul], by rw [List.length_drop], by rw [List.length_drop]; omega, by omega, ?_⟩
              rw [hA2]
              exact HrA.out.cut hrc
            have Hnext := Lib.hid hnext
            have hs3 : signK z b (k + 1) = signK z b k ++ [(x1, x2)] := by
              rw [signK_succ]
              have e : sgOf (blk z b k) = (x1, x2) := by unfold blk sgOf; rw [← Hrd.out, Hx1.out, Hx2.out]
              rw [e]
            have Hs3 := Lib.hid hs3
            clear hnext hs3
            by_cases hcz : c' = z
            all_goals
              go_wp2
              go_roundg (n - (k + 1))
              case rel =>
                obtain ⟨r2, q1, q2, q3, q4, q5⟩ := Hnext.out _ _ rfl rfl
                refine ⟨k + 1, _, _, r2, by omega, rfl, q1, ?_, q3, q4, q5, by rw [Hs3.out]; exact Ho3.out, Hb3.out⟩
                rw [q2]
                simp [hcz]
              case measure => have := Hm2.out; omega
          · refine CanT.imp rfl (fun K hK => ?_)
            go_simp
            refine hK.out _ _ (trivial) ?_
            clear hK K
            refine CanT.imp rfl (fun K hK => ?_)
            go_simp
            refine (sum_calls (l := r.take z) (by rw [List.length_take]; omega) (Hx.out.alloc Hb.out.size _) (by rw [List.length_take]; omega)).mono ?_
            rw [Hx1.out]
            rintro e w1 ⟨rfl, rfl⟩
            (try go_simp)
            refine hK.out _ _ (trivial) ?_
            clear hK K
            refine CanT.imp rfl (fun K hK => ?_)
            go_simp
            refine (of_calls [r.take z] (some ⟨wr.heap.size, 0, none⟩) 1 _ (Hbb.out) (Htab1.out) (by simp) (by omega) (by intro p hp; simp at hp; subst hp; rw [List.length_take]; omega) (by simp; omega)).mono ?_
            rw [Hfl.out, Hx2.out]
            rintro e w2 ⟨rfl, hb2⟩
            have hb2' := hba.trans (hb2.mono (by simp))
            have Ho2 := Lib.hid (Ho.out.keptB hb2')
            have Hb2 := Lib.hid (Hb.out.trans (hb2'.mono Hb.out.size))
            clear hb2 hb2'
            (try go_simp)
            refine hK.out _ _ (trivial) ?_
            clear hK K
            repeat (first | (refine CanT.skip rfl ?_ (fun K hK => ?_); (focus (go_simp; done)); go_simp; refine hK _ ?_; clear hK K) | (refine CanT.pur rfl ?_ ?_; (focus (go_simp; done)); refine ⟨?_, ?_, ?_⟩; rotate_left; (focus (intro w'; go_simp; rfl)); (focus (intro K hK; go_simp; refine hK _ ?_; clear hK K))) | (refine CanT.bld rfl ?_ 60 _ rfl #[(0, .int .u32 (x1 : Int)), (1, .agg (bvs x2).toArray)] rfl _ (fun w' => run_sig x1 x2 Hl2.out w') (fun K hK => ?_); (focus (go_simp; done)); go_simp; refine hK _ ?_; clear hK K))
            refine CanT.imp rfl (fun K hK => ?_)
            refine step_bslice _ ?_ 27 60 1 _ rfl Tryd.underlying27 i0 33 36 Hi.out (by omega) (by omega) [(0, .agg (sgv (x1, x2)).toArray)] rfl (sgv (x1, x2)) (fun Z hZ => fill_one 33 (.agg (sgv (x1, x2)).toArray) (sgv_len Hl2.out) Z hZ) ?_
            focus (go_simp; done)
            (try go_simp)
            refine hK.out _ _ (trivial) ?_
            clear hK K
            refine CanT.imp rfl (fun K hK => ?_)
            refine step_appR _ ?_ (.tmp 29) (.tmp 40) 27 rfl w.heap.size 60 i0 36 Tryd.underlying27 Hi.out (by omega) _ _ rfl (Ho2.out.alloc _) _ _ 1 1 [(x1, x2)] rfl rfl (ReadRow.lit1 w2 60 _ (x1, x2) rfl (sgv_len Hl2.out) (sgv_one _)) (by rw [signK_len]; simp; omega) (by rw [signK_len]; simp; omega) (by have := Hb2.out.size; simp; omega) ?_
            focus (go_simp; done)
            intro v3 w3 ho3 _ _ hb3
            have Ho3 := Lib.hid ho3
            have Hb3 := Lib.hid ((Hb2.out.alloc Hb2.out.size _).trans hb3)
            clear ho3 hb3
            (try go_simp)
            refine hK.out _ _ (trivial) ?_
            clear hK K
            repeat (first | (refine CanT.skip rfl ?_ (fun K hK => ?_); (focus (go_simp; done)); go_simp; refine hK _ ?_; clear hK K) | (refine CanT.pur rfl ?_ ?_; (focus (go_simp; done)); refine ⟨?_, ?_, ?_⟩; rotate_left; (focus (intro w'; go_simp; rfl)); (focus (intro K hK; go_simp; refine hK _ ?_; clear hK K))))
            refine CanT.done ?_
            have hnext : ∀ (A2 : Option Addr) (c2 : Nat), A2 = (if c' = z then A' else A'.map (·.add z)) → c2 = c' - z → ∃ r2, r2 = b.drop ((k + 1) * z) ∧ r2.length = r.length - z ∧ r2.length ≤ c2 ∧ c2 ≤ 9223372036854775807 ∧ ReadB w w.heap.size A2 r2 := by
              intro A2 c2 hA2 hc2
              refine ⟨r.drop z, by rw [Hrd.out, List.drop_drop, Nat.add_mul, Nat.one_mul], by rw [List.length_drop], by rw [List.length_drop]; omega, by omega, ?_⟩
              rw [hA2]
              exact HrA.out.cut hrc
            have Hnext := Lib.hid hnext
            have hs3 : signK z b (k + 1) = signK z b k ++ [(x1, x2)] := by
              rw [signK_succ]
              have e : sgOf (blk z b k) = (x1, x2) := by unfold blk sgOf; rw [← Hrd.out, Hx1.out, Hx2.out]
              rw [e]
            have Hs3 := Lib.hid hs3
            clear hnext hs3
            by_cases hcz : c' = z
            all_goals
              go_wp2
              go_roundg (n - (k + 1))
              case rel =>
                obtain ⟨r2, q1, q2, q3, q4, q5⟩ := Hnext.out _ _ rfl rfl
                refine ⟨k + 1, _, _, r2, by omega, rfl, q1, ?_, q3, q4, q5, by rw [Hs3.out]; exact Ho3.out, Hb3.out⟩
                rw [q2]
                simp [hcz]
              case measure => have := Hm2.out; omega
        · have hkn2 : k = n := by omega
          have t1 : decide ((z : Int) ≤ (r.length : Int)) = false := by
            rw [decide_eq_false_iff_not]
            have := Hnz2.out
            have := Hnz.out
            have := Hrl.out
            rw [hkn2] at this
            omega
          have t2 : decide (z ≤ r.length) = false := by
            rw [decide_eq_false_iff_not] at t1 ⊢
            omega
          have t3 : ¬ z ≤ r.length := by simpa using t2
          go_wp2_with fail
          go_ret2
          rw [hkn2] at Ho
          exact ⟨u6, rfl, Ho.out, Hb.out⟩
    · have hs : sign (z : Int) b = ([], 5) := by unfold sign; rw [if_neg (by omega), if_pos (by simp; omega)]
      rw [hs]
      have hdiv : (b.length : Int).tdiv (z : Int) = ((b.length / z : Nat) : Int) := Int.ofNat_tdiv _ _ |>.symm
      have hnl : b.length / z ≤ b.length := Nat.div_le_self _ _
      generalize b.length / z = n at hdiv h2 hnl
      have hz0 : (z : Int) ≠ 0 := by omega
      clear hr htab hs
      by_cases h3 : b.length ≤ 65536
      all_goals
        go_enter Tryd.func22, Tryd.ntmps22
        go_wp2_with (go_at_call 53; refine (Hm.out _).mono ?_; rintro e w1 ⟨rfl, rfl⟩)
        go_ret2
        exact ⟨_, rfl, OwnRow.nil, Below.refl _ _⟩
  · have hs : sign size b = ([], 2) := by unfold sign; rw [if_pos (by omega)]
    rw [hs]
    have hm := may_calls size false (by simp; omega)
    have Hm := Lib.hid hm
    clear hm hr htab hs
    go_enter Tryd.func22, Tryd.ntmps22
    go_wp2_with (go_at_call 53; refine (Hm.out _).mono ?_; rintro e w1 ⟨rfl, rfl⟩)
    go_ret2
    exact ⟨_, rfl, OwnRow.nil, Below.refl _ _⟩
end Bk
end Go.Proofs.YtiofkhjpknfkgaaDoor
/- Bytes of a constant text: the row is laid and marked; the mark changes no cell. -/
namespace Go.Proofs.YtiofkhjpknfkgaaDoor
namespace Li
open Go.RowKit Ba
set_option linter.unusedVariables false
/-- a world with a row marked -/
def mkB (w : World) (g : Nat) : World := match w.shape? g with
  | some (_, n) => w.freeze ⟨g, n, none⟩ 1
  | none => w
section
variable {P : Program}
theorem conv_run (t e : TypeId) (ht : P.underlying t = some (.slice e)) (he : P.underlying e = some (.int .u8)) (g n c : Nat) (w : World) :
    (convert t t (.slice (some ⟨g, 0, none⟩) n c)).run P w = .ok (.slice (some ⟨g, 0, none⟩) n c) (mkB w g) := by
  unfold mkB
  simp only [convert, Sem.run_bind, run_underlying ht, run_underlying he, Result.andThen_ok, beq_self_eq_true, markStringish]
  cases h : w.shape? g with
  | none => simp [h]
  | some p => obtain ⟨e', n'⟩ := p; simp [h]
theorem freeze_size (w : World) (a : Addr) (n : Nat) : (w.freeze a n).heap.size = w.heap.size := by
  unfold World.freeze; split <;> simp
theorem mkB_size (w : World) (g : Nat) : (mkB w g).heap.size = w.heap.size := by
  unfold mkB; split
  · exact freeze_size _ _ _
  · rfl
theorem mkB_grown (w : World) (g : Nat) : w.grownBy (mkB w g) (some g) := by
  unfold mkB
  split
  · refine ⟨?_, ?_, ?_, by rw [freeze_size]; exact Nat.le_refl _, fun i hi hne => ?_⟩
    · unfold World.freeze; rw [if_neg (by decide)]
    · unfold World.freeze; rw [if_neg (by decide)]
    · unfold World.freeze; rw [if_neg (by decide)]
    · unfold World.freeze
      rw [if_neg (by decide)]
      have : g ≠ i := fun e => hne (by rw [e])
      simp [Array.getElem?_modify, this]
  · exact World.grownBy.refl w _
theorem mkB_cell (w : World) (g : Nat) (b o : Nat) : (mkB w g).cell? ⟨b, o, none⟩ = w.cell? ⟨b, o, none⟩ := by
  by_cases hb : b = g
  · subst hb
    unfold mkB
    split
    · unfold World.freeze
      rw [if_neg (by decide)]
      unfold World.cell?
      simp only [Array.getElem?_modify, if_true]
      cases w.heap[b]? with
      | none => rfl
      | some ob =>
        cases ob with
        | cells c e fr => obtain ⟨lo, hi⟩ := fr; rfl
        | _ => rfl
    · rfl
  · rcases Nat.lt_or_ge b w.heap.size with h | h
    · exact World.cell?_of_block ((mkB_grown w g).block b h (by simpa using hb))
    · have h1 : w.heap[b]? = none := Array.getElem?_eq_none h
      have h2 : (mkB w g).heap[b]? = none := Array.getElem?_eq_none (by rw [mkB_size]; exact h)
      unfold World.cell?
      simp only [h1, h2]
theorem mkB_below {B : Nat} {a w : World} {g : Nat} (h : Below B a w) (hg : B ≤ g) (hs : B ≤ w.heap.size) : Below B a (mkB w g) := h.trans (below_of_only (mkB_grown w g) hg hs)
end
end Li
end Go.Proofs.YtiofkhjpknfkgaaDoor
/- The closed case: what every right program tells of eight bytes. -/
namespace Go.Proofs.YtiofkhjpknfkgaaDoor
namespace Bk
open Go.RowKit Ba Sm Ro
set_option linter.unusedVariables false
theorem mkB_lit (w : World) (E : TypeId) (vs : List Value) (l : List UInt8) (g : Nat) (hg : g = w.heap.size) (h : vs = bvs l) :
    ReadB (Li.mkB (w.alloc (.cells vs.toArray E)) g) (Li.mkB (w.alloc (.cells vs.toArray E)) g).heap.size (some ⟨g, 0, none⟩) l ∧ Below w.heap.size w (Li.mkB (w.alloc (.cells vs.toArray E)) g) := by
  subst hg
  refine ⟨?_, Li.mkB_below ((Below.refl _ _).alloc (Nat.le_refl _) _) (Nat.le_refl _) (by simp)⟩
  have h1 := ReadB.litN w E vs l w.heap.size rfl h
  rw [Li.mkB_size]
  intro hn
  obtain ⟨b, o, e, hb, hc⟩ := h1 hn
  exact ⟨b, o, e, by simpa using hb, fun k hk => by rw [Li.mkB_cell]; exact hc k hk⟩
def abc8 : List UInt8 := [97, 98, 99, 100, 101, 102, 103, 104]
theorem abc_blk : blk 3 abc8 0 = [97, 98, 99] ∧ blk 3 abc8 1 = [100, 101, 102] := by decide
theorem abc_sums : rsum [97, 98, 99] ≠ rsum [100, 101, 102] := by decide
theorem abc_sign : sign 3 abc8 = (signK 3 abc8 2, 0) := rfl
theorem abc_find : findB 3 (signK 3 abc8 2) [100, 101, 102] = (3, true) := by
  have e0 : findB 3 (signK 3 abc8 2) [100, 101, 102] = tellIx 3 (findIx (signK 3 abc8 2) (sgOf [100, 101, 102])) := if_pos (by rfl)
  rw [e0]
  have e : signK 3 abc8 2 = [sgOf [97, 98, 99], sgOf [100, 101, 102]] := by
    show [sgOf (blk 3 abc8 0), sgOf (blk 3 abc8 1)] = _
    rw [abc_blk.1, abc_blk.2]
  rw [e]
  have h : findIx [sgOf [97, 98, 99], sgOf [100, 101, 102]] (sgOf [100, 101, 102]) = some 1 := by
    unfold findIx
    show List.find? _ [0, 1] = some 1
    have h0 : (sg [sgOf [97, 98, 99], sgOf [100, 101, 102]] 0 == sgOf [100, 101, 102]) = false := by
      have : sgOf [97, 98, 99] ≠ sgOf [100, 101, 102] := fun h => abc_sums (congrArg Prod.fst h)
      exact beq_false_of_ne this
    have h1 : (sg [sgOf [97, 98, 99], sgOf [100, 101, 102]] 1 == sgOf [100, 101, 102]) = true := beq_self_eq_true (sgOf [100, 101, 102])
    rw [List.find?_cons_of_neg (by rw [h0]; decide)]
    exact List.find?_cons_of_pos h1
  rw [h]
  rfl
end Bk
end Go.Proofs.YtiofkhjpknfkgaaDoor
/- Each block of a file is found by its bytes, at its place, or at one ahead: the walk of the statement. -/
namespace Go.Proofs.YtiofkhjpknfkgaaDoor
namespace Bk
open Go.RowKit Ba Sm Ro
set_option linter.unusedVariables false
theorem findIx_at (L : List Sg) (s : Sg) (k : Nat) (hk : k < L.length) (hs : sg L k = s) : ∃ j, findIx L s = some j ∧ j ≤ k := by
  unfold findIx
  cases h : (List.range L.length).find? (fun i => sg L i == s) with
  | none =>
    rw [List.find?_eq_none] at h
    have := h k (by simpa using hk)
    rw [hs] at this
    simp at this
  | some j =>
    refine ⟨j, rfl, ?_⟩
    rw [List.find?_range_eq_some] at h
    rcases Nat.lt_or_ge k j with h2 | h2
    · have := h.2.2 k h2
      rw [hs] at this
      simp at this
    · exact h2
theorem sg_signK (z : Nat) (b : List UInt8) (m k : Nat) (hk : k < m) : sg (signK z b m) k = sgOf (blk z b k) := by
  unfold sg signK
  simp [List.getD, hk]
theorem whole_find (z : Nat) (b : List UInt8) (m k : Nat) (hk : k < m) (hm : m * z ≤ b.length) : ∃ j, j ≤ k ∧ findB z (signK z b m) (blk z b k) = (((j * z : Nat) : Int), true) := by
  obtain ⟨j, h1, h2⟩ := findIx_at (signK z b m) (sgOf (blk z b k)) k (by rw [signK_len]; exact hk) (sg_signK z b m k hk)
  refine ⟨j, h2, ?_⟩
  have hl : (blk z b k).length = z := blk_len z b k (Nat.le_trans (Nat.mul_le_mul_right z hk) hm)
  unfold findB
  rw [if_pos hl, h1]
  rfl
theorem whole_weak (z : Nat) (b : List UInt8) (m k : Nat) (hk : k < m) : hasWeak (signK z b m) (rsum (blk z b k)) = true := by
  unfold hasWeak
  rw [List.any_eq_true]
  refine ⟨k, by rw [signK_len]; simpa using hk, ?_⟩
  rw [sg_signK z b m k hk]
  exact beq_self_eq_true _
end Bk
end Go.Proofs.YtiofkhjpknfkgaaDoor
/- Laws of the search by a file's own sums. -/
namespace Go.Proofs.YtiofkhjpknfkgaaDoor
namespace Ms
open Tm Bk Ro Sm
set_option linter.unusedVariables false
theorem find_some {l : List Sg} {s : Sg} {k : Nat} (h : findIx l s = some k) : k < l.length ∧ sg l k = s := by
  unfold findIx at h
  rw [List.find?_range_eq_some] at h
  exact ⟨by simpa using h.2.1, by simpa using h.1⟩
theorem cut_blk (z : Nat) (b : List UInt8) (k : Nat) : cut b (k * z) (k * z + z) = blk z b k := by
  unfold cut blk
  rw [Nat.add_sub_cancel_left]
theorem finds_sign (z : Nat) (old : List UInt8) (hz : 1 ≤ z) : Finds sgOf old z (findB z (signK z old (old.length / z))) := by
  intro x hx h
  unfold findB at h ⊢
  rw [if_pos hx] at h ⊢
  cases hf : findIx (signK z old (old.length / z)) (sgOf x) with
  | none => rw [hf] at h; simp [tellIx] at h
  | some j =>
    obtain ⟨h1, h2⟩ := find_some hf
    rw [signK_len] at h1
    refine ⟨j, rfl, ?_, ?_⟩
    · have h3 := Nat.mul_le_mul_right z (show j + 1 ≤ old.length / z by omega)
      have h4 := Nat.div_mul_le_self old.length z
      rw [Nat.add_mul, Nat.one_mul] at h3
      omega
    · rw [cut_blk, ← sg_signK z old _ j h1]
      exact h2
theorem tiled_take {α : Type} {S : List UInt8 → α} {old b : List UInt8} {z : Nat} : ∀ (l : List O) (p q k : Nat), tiled S old b z l p q → 0 ≤ copied (l.take k) ∧ 0 ≤ literal (l.take k) ∧ copied (l.take k) + literal (l.take k) ≤ (q : Int) - (p : Int)
  | [], p, q, k, h => by
    have : p = q := h
    subst this
    simp [copied, literal]
  | o :: l, p, q, 0, h => by
    have h2 := tiled_take l _ q 0 h.2
    simp [copied, literal] at h2 ⊢
    omega
  | o :: l, p, q, k + 1, h => by
    obtain ⟨h1, h2⟩ := h
    have ih := tiled_take l _ q k h2
    have e : (o :: l).take (k + 1) = [o] ++ l.take k := rfl
    rw [e, copied_append, literal_append]
    have ho : copied [o] + literal [o] = (osize o : Int) ∧ 0 ≤ copied [o] ∧ 0 ≤ literal [o] := by
      unfold okAt at h1
      unfold copied literal osize
      cases hc : o.copy with
      | true =>
        rw [if_pos hc] at h1
        obtain ⟨N, A, e1, _⟩ := h1
        simp [hc, e1]
      | false => simp [hc]
    omega
theorem srch_none (F : List UInt8 → Int × Bool) (z : Nat) (b : List UInt8) (h : ∀ x, (F x).2 = false) : ∀ f out frm i, srch F z b f out frm i = (out, frm)
  | 0, out, frm, i => rfl
  | f + 1, out, frm, i => by
    unfold srch
    split
    · rw [h, if_neg (by simp)]
      exact srch_none F z b h f out frm (i + 1)
    · rfl
theorem search_none (F : List UInt8 → Int × Bool) (z : Nat) (b : List UInt8) (h : ∀ x, (F x).2 = false) : search F z b = whole b := by
  unfold search
  rw [srch_none F z b h]
  unfold fin
  split
  · rfl
  · simp
theorem findB_nil (z : Nat) (x : List UInt8) : (findB z [] x).2 = false := by
  unfold findB
  split <;> rfl
theorem hit_sign (z : Nat) (o : List UInt8) (hz : 1 ≤ z) (k : Nat) (hk : k * z + z ≤ o.length) : (findB z (signK z o (o.length / z)) (blk z o k)).2 = true := by
  obtain ⟨j, _, e⟩ := whole_find z o (o.length / z) k ((Nat.le_div_iff_mul_le (by omega)).2 (by rw [Nat.succ_mul]; exact hk)) (Nat.div_mul_le_self _ _)
  rw [e]
theorem self_sign (z : Nat) (b : List UInt8) (hz : 1 ≤ z) (hm : b.length % z = 0) (hb : b.length ≤ 2000) : copied (search (findB z (signK z b (b.length / z))) z b) = (b.length : Int) ∧ literal (search (findB z (signK z b (b.length / z))) z b) = 0 :=
  self _ z b hz (fun k hk => by rw [cut_blk]; exact hit_sign z b hz k hk) hm hb
theorem moved_sign (z : Nat) (a o : List UInt8) (hz : 1 ≤ z) (hb : (a ++ o).length ≤ 2000) : literal (search (findB z (signK z o (o.length / z))) z (a ++ o)) ≤ (a.length : Int) + z + z :=
  moved _ z a.length (a ++ o) hz (by simp) (fun k hk => by
    have e : cut (a ++ o) (a.length + k * z) (a.length + k * z + z) = blk z o k := by
      unfold cut blk
      rw [Nat.add_sub_cancel_left, List.drop_append, List.drop_eq_nil_of_le (show a.length ≤ a.length + k * z by omega), List.nil_append, Nat.add_sub_cancel_left]
    rw [e]
    exact hit_sign z o hz k (by rw [List.length_append] at hk; omega)) hb
theorem tells_sign (z : Nat) (old b : List UInt8) (hz : 1 ≤ z) (hb : b.length ≤ 2000) : tiled sgOf old b z (search (findB z (signK z old (old.length / z))) z b) 0 b.length := tells _ hz (finds_sign z old hz) hb
theorem bd_sign (z : Nat) (old b : List UInt8) (hz : 1 ≤ z) (hb : b.length ≤ 2000) (k : Nat) : (0 ≤ copied ((search (findB z (signK z old (old.length / z))) z b).take k) ∧ copied ((search (findB z (signK z old (old.length / z))) z b).take k) ≤ 4611686018427387904) ∧ (0 ≤ literal ((search (findB z (signK z old (old.length / z))) z b).take k) ∧ literal ((search (findB z (signK z old (old.length / z))) z b).take k) ≤ 4611686018427387904) := by
  have h := tiled_take _ 0 b.length k (tells_sign z old b hz hb)
  omega
end Ms
end Go.Proofs.YtiofkhjpknfkgaaDoor
/- Operations in memory: rows of four cells, each with bytes of its own. -/
namespace Go.Proofs.YtiofkhjpknfkgaaDoor
namespace Os_
open Go.RowKit Ba Tm
set_option linter.unusedVariables false
/-- an operation, where its bytes lie, and the room there -/
abbrev Ow := O × Option Addr × Nat
def opv (x : Ow) : List Value := [.bool x.1.copy, .int .i64 x.1.pos, .int .i64 x.1.n, .slice x.2.1 x.1.data.length x.2.2]
theorem opv_len (x : Ow) : (opv x).length = 4 := rfl
theorem opv_one (x : Ow) : ∀ v ∈ opv x, v.oneCell' = true := by
  intro v hv
  simp only [opv, List.mem_cons, List.not_mem_nil, or_false] at hv
  rcases hv with rfl | rfl | rfl | rfl <;> rfl
def WfO (w : World) (B : Nat) (x : Ow) : Prop := (-9223372036854775808 ≤ x.1.pos ∧ x.1.pos ≤ 9223372036854775807) ∧ (-9223372036854775808 ≤ x.1.n ∧ x.1.n ≤ 9223372036854775807) ∧ x.1.data.length ≤ x.2.2 ∧ x.2.2 ≤ 9223372036854775807 ∧ ReadB w B x.2.1 x.1.data
theorem WfO.below {w w' : World} {B : Nat} {x : Ow} (h : WfO w B x) (hb : Below B w w') : WfO w' B x := ⟨h.1, h.2.1, h.2.2.1, h.2.2.2.1, h.2.2.2.2.below hb⟩
theorem WfO.more {w : World} {B B' : Nat} {x : Ow} (h : WfO w B x) (hB : B ≤ B') : WfO w B' x := ⟨h.1, h.2.1, h.2.2.1, h.2.2.2.1, h.2.2.2.2.more hB⟩
/-- operations that are read -/
def ReadO (w : World) (B : Nat) (A : Option Addr) (L : List Ow) : Prop := ReadRow opv 4 w B A L ∧ ∀ x ∈ L, WfO w B x
def ops (L : List Ow) : List O := L.map (·.1)
theorem ops_len (L : List Ow) : (ops L).length = L.length := by simp [ops]
theorem ReadO.nil {w : World} {B : Nat} {A : Option Addr} : ReadO w B A [] := ⟨ReadRow.nil, fun x h => absurd h (by simp)⟩
theorem ReadO.below {w w' : World} {B : Nat} {A : Option Addr} {L : List Ow} (h : ReadO w B A L) (hb : Below B w w') : ReadO w' B A L := ⟨h.1.below hb, fun x hx => (h.2 x hx).below hb⟩
theorem ReadO.more {w : World} {B B' : Nat} {A : Option Addr} {L : List Ow} (h : ReadO w B A L) (hB : B ≤ B') : ReadO w B' A L := ⟨h.1.more hB, fun x hx => (h.2 x hx).more hB⟩
end Os_
end Go.Proofs.YtiofkhjpknfkgaaDoor
/- Operations of the call's own: a row of its own, whose bytes lie in blocks of bytes. -/
namespace Go.Proofs.YtiofkhjpknfkgaaDoor
namespace Os_
open Go.RowKit Ba Tm
set_option linter.unusedVariables false
/-- bytes that lie in a block of bytes -/
def RT (w : World) (A : Option Addr) (l : List UInt8) : Prop :=
  0 < l.length → ∃ b o cs, A = some ⟨b, o, none⟩ ∧ Blk w b 5 cs ∧ ∀ k, k < l.length → w.cell? ⟨b, o + k, none⟩ = some (.int .u8 ((l.getD k 0).toNat : Int))
section
variable {w w' : World} {A : Option Addr} {l : List UInt8}
theorem RT.nil : RT w A [] := fun h => absurd h (by simp)
theorem RT.readB (h : RT w A l) : ReadB w w.heap.size A l := fun hn => by
  obtain ⟨b, o, cs, e, hb, hc⟩ := h hn
  exact ⟨b, o, e, hb.lt, hc⟩
theorem RT.of_own {base c : Nat} (h : OwnB w base 5 (.slice A l.length c) l) : RT w A l := fun hn => by
  rcases h.2 with ⟨hv, h0⟩ | ⟨g, cap, cur, hv, _, hh, _⟩
  · omega
  · injection hv with hA _ _
    subst hA
    exact ⟨g, 0, cur, rfl, hh, fun k hk => by rw [Nat.zero_add]; exact OwnB.cell (c := c) h hk⟩
theorem RT.below (h : RT w A l) (hb : Below w.heap.size w w') : RT w' A l := fun hn => by
  obtain ⟨b, o, cs, e, hB, hc⟩ := h hn
  exact ⟨b, o, cs, e, hB.below hb hB.lt, fun k hk => (hb.cell (p := ⟨b, o + k, none⟩) hB.lt).trans (hc k hk)⟩
theorem RT.row {row : Option Nat} (h : RT w A l) (hg : w.grownBy w' row) (hB : ∀ g, row = some g → ∃ t cs, Blk w g t cs ∧ 5 ≠ t) : RT w' A l := fun hn => by
  obtain ⟨b, o, cs', e, hb, hc⟩ := h hn
  have hbg : some b ≠ row := fun e2 => by
    obtain ⟨t, cs, h1, h2⟩ := hB b e2.symm
    exact hb.ne_ h1 h2 rfl
  exact ⟨b, o, cs', e, hb.grown hg hbg, fun k hk => (World.cell?_of_block (hg.block b hb.lt hbg)).trans (hc k hk)⟩
theorem RT.drop {b o : Nat} (h : RT w (some ⟨b, o, none⟩) l) (k : Nat) : RT w (some ⟨b, o + k, none⟩) (l.drop k) := fun hn => by
  have hk : k < l.length := by simp at hn; omega
  obtain ⟨b', o', cs, e, hb, hcl⟩ := h (by omega)
  injection e with e
  injection e with e1 e2
  subst e1 e2
  refine ⟨b, o + k, cs, rfl, hb, fun j hj => ?_⟩
  have hj' : k + j < l.length := by simp at hj; omega
  rw [Nat.add_assoc, hcl (k + j) hj']
  simp [List.getD]
end
def WfT (w : World) (x : Ow) : Prop := (-9223372036854775808 ≤ x.1.pos ∧ x.1.pos ≤ 9223372036854775807) ∧ (-9223372036854775808 ≤ x.1.n ∧ x.1.n ≤ 9223372036854775807) ∧ x.1.data.length ≤ x.2.2 ∧ x.2.2 ≤ 9223372036854775807 ∧ RT w x.2.1 x.1.data
theorem WfT.wf {w : World} {x : Ow} (h : WfT w x) : WfO w w.heap.size x := ⟨h.1, h.2.1, h.2.2.1, h.2.2.2.1, h.2.2.2.2.readB⟩
theorem WfT.below {w w' : World} {x : Ow} (h : WfT w x) (hb : Below w.heap.size w w') : WfT w' x := ⟨h.1, h.2.1, h.2.2.1, h.2.2.2.1, h.2.2.2.2.below hb⟩
theorem WfT.row {w w' : World} {x : Ow} {row : Option Nat} (h : WfT w x) (hg : w.grownBy w' row) (hB : ∀ g, row = some g → ∃ t cs, Blk w g t cs ∧ 5 ≠ t) : WfT w' x := ⟨h.1, h.2.1, h.2.2.1, h.2.2.2.1, h.2.2.2.2.row hg hB⟩
/-- operations of the call's own -/
def OwnO (w : World) (base : Nat) (v : Value) (L : List Ow) : Prop := OwnRow opv 4 w base 40 v L ∧ ∀ x ∈ L, WfT w x
section
variable {w w' : World} {base : Nat} {v : Value} {L : List Ow}
theorem op_ne : (5 : TypeId) ≠ 40 := by decide
theorem OwnO.nil : OwnO w base (.slice none 0 0) [] := ⟨OwnRow.nil, by simp⟩
theorem OwnO.keptB (h : OwnO w base v L) (hb : Below w.heap.size w w') : OwnO w' base v L := ⟨h.1.keptB hb, fun x hx => (h.2 x hx).below hb⟩
theorem OwnO.alloc (h : OwnO w base v L) (o : Obj) : OwnO (w.alloc o) base v L := h.keptB ((Below.refl _ _).alloc (Nat.le_refl _) o)
theorem OwnO.weak {b2 : Nat} (h : OwnO w base v L) (hb : b2 ≤ base) : OwnO w b2 v L := ⟨h.1.weak hb, h.2⟩
theorem OwnO.grown {row : Option Nat} (h : OwnO w base v L) (hg : w.grownBy w' row) (hne : v.ownBlock = none ∨ v.ownBlock ≠ row) (hB : ∀ g, row = some g → ∃ t cs, Blk w g t cs ∧ 5 ≠ t) : OwnO w' base v L := ⟨h.1.grown hg hne, fun x hx => (h.2 x hx).row hg hB⟩
theorem own_blk (h : OwnRow opv 4 w base 40 v L) : ∀ g, v.ownBlock = some g → ∃ cs, Blk w g 40 cs := fun g hg => by
  rcases h.2.2 with ⟨rfl, _⟩ | ⟨g2, cap, cur, rfl, hb, hh, _⟩
  · cases hg
  · simp only [Value.ownBlock, Option.some.injEq] at hg
    subst hg
    exact ⟨cur, hh⟩
/-- one more is put behind -/
theorem OwnO.app {v' : Value} {r : List Ow} (h : OwnO w base v L) (h1 : OwnRow opv 4 w' base 40 v' (L ++ r)) (hg : w.grownBy w' v.ownBlock) (hr : ∀ x ∈ r, WfT w x) : OwnO w' base v' (L ++ r) := by
  have hB : ∀ g, v.ownBlock = some g → ∃ t cs, Blk w g t cs ∧ 5 ≠ t := fun g hg => by
    obtain ⟨cs, hcs⟩ := own_blk h.1 g hg
    exact ⟨_, cs, hcs, op_ne⟩
  refine ⟨h1, fun x hx => ?_⟩
  rcases List.mem_append.1 hx with hx | hx
  · exact (h.2 x hx).row hg hB
  · exact (hr x hx).row hg hB
theorem OwnO.opens (h : OwnO w base v L) : ∃ A c, v = .slice A L.length c ∧ L.length ≤ c ∧ c ≤ 9223372036854775807 ∧ ReadO w w.heap.size A L ∧ (∀ ad, A = some ad → base ≤ ad.block ∧ ad.block < w.heap.size) := by
  obtain ⟨A, c, e, h1, h2, h3, h4⟩ := h.1.opens
  exact ⟨A, c, e, h1, h2, ⟨h3, fun x hx => (h.2 x hx).wf⟩, h4⟩
end
/-- the k-th operation -/
def oat (L : List Ow) (k : Nat) : Ow := L.getD k (⟨false, 0, 0, []⟩, none, 0)
theorem oat_get {L : List Ow} {k : Nat} (h : k < L.length) : L[k]? = some (oat L k) := by simp [oat, List.getD, h]
theorem oat_mem {L : List Ow} {k : Nat} (h : k < L.length) : oat L k ∈ L := List.mem_of_getElem? (oat_get h)
theorem opv_mk (c : Bool) (p n : Int) (d : List UInt8) (A : Option Addr) (k : Nat) : opv (⟨c, p, n, d⟩, A, k) = [.bool c, .int .i64 p, .int .i64 n, .slice A d.length k] := rfl
theorem isOp : ∃ i, IsRec Tryd.prog 40 i 4 48 := isRec_of (by kernel_rfl)
end Os_
end Go.Proofs.YtiofkhjpknfkgaaDoor
/- Slices of bytes, as equations for the walk. -/
namespace Go.Proofs.YtiofkhjpknfkgaaDoor
namespace Ba
open Go.RowKit
set_option linter.unusedVariables false
theorem elem_of {P : Program} {t e : TypeId} (hu : P.underlying t = some (.slice e)) : P.elem t = e := by simp [Program.elem, hu]
/-- x[l:h] -/
theorem sl_lh {P : Program} (t e : TypeId) (i : TypeInfo) (hu : P.underlying t = some (.slice e)) (hi : IsByte P e i) (b o n cap : Nat) (l h : Int) (p k : Nat) (hl : l = p) (hh : h = p + k) (h2 : p + k ≤ cap) (h3 : p < cap) (w : World) :
    (Instr.slice t (.slice (some ⟨b, o, none⟩) n cap) (some (.int .i64 l)) (some (.int .i64 h)) none).run P w = .ok (.slice (some ⟨b, o + p, none⟩) k (cap - p)) w := by
  subst hl hh
  rw [run_slice_lh w t (some ⟨b, o, none⟩) n cap (by rw [elem_of hu]; exact hu) .i64 .i64 (p : Int) ((p : Int) + (k : Int)) (by omega) (by omega) (by omega), elem_of hu]
  have hs : (sizeOf e).run P w = .ok 1 w := by simp [sizeOf, typeInfo, hi.1, hi.2.2.1]
  rw [hs]
  simp only [Result.andThen_ok, sliced]
  have e1 : ((p : Int) + (k : Int)).toNat - (p : Int).toNat = k := by omega
  have e2 : (p : Int).toNat = p := by omega
  rw [e1, e2, if_neg (by omega), Nat.mul_one, Option.map_some, add_lit_]
/-- x[l:], something left of the capacity -/
theorem sl_l {P : Program} (t e : TypeId) (i : TypeInfo) (hu : P.underlying t = some (.slice e)) (hi : IsByte P e i) (A : Option Addr) (n cap : Nat) (l : Int) (p : Nat) (hl : l = p) (h2 : p ≤ n) (w : World) :
    (Instr.slice t (.slice A n cap) (some (.int .i64 l)) none none).run P w = .ok (.slice (if cap = p then A else A.map (·.add p)) (n - p) (cap - p)) w := by
  subst hl
  rw [run_slice_l w t A n cap (by rw [elem_of hu]; exact hu) .i64 (p : Int) (by omega) (by omega), elem_of hu]
  have hs : (sizeOf e).run P w = .ok 1 w := by simp [sizeOf, typeInfo, hi.1, hi.2.2.1]
  rw [hs]
  simp only [Result.andThen_ok, sliced]
  have e2 : (p : Int).toNat = p := by omega
  rw [e2, Nat.mul_one]
/-- x[:h] -/
theorem sl_h {P : Program} (t e : TypeId) (i : TypeInfo) (hu : P.underlying t = some (.slice e)) (hi : IsByte P e i) (A : Option Addr) (n cap : Nat) (h : Int) (k : Nat) (hh : h = k) (h2 : k ≤ cap) (w : World) :
    (Instr.slice t (.slice A n cap) none (some (.int .i64 h)) none).run P w = .ok (.slice A k cap) w := by
  subst hh
  rw [run_slice_h w t A n cap (by rw [elem_of hu]; exact hu) .i64 (k : Int) (by omega) (by omega), elem_of hu]
  have hs : (sizeOf e).run P w = .ok 1 w := by simp [sizeOf, typeInfo, hi.1, hi.2.2.1]
  rw [hs]
  simp only [Result.andThen_ok, sliced]
  have e2 : (k : Int).toNat = k := by omega
  rw [e2, Nat.sub_zero, Nat.sub_zero]
  split
  · rfl
  · cases A <;> simp [Addr.add]
end Ba
namespace CanT
open CanM (St)
open Go.RowKit Ba
variable {P : Program} {ops : Array Oper} {Q : Exit → Act → World → Prop} {F : World → Prop} {k : Nat} {i : Nat} {o : Oper} {a : Act} {w : World} {rest : Ord}
/-- one cell is read, whatever F says of the world -/
theorem cellG (hi : ops[i]? = some o) (hg : Region.wanted o (yielded ops a.tmps) = true) (u v : Value) (p : Addr) (hF : ∀ w', F w' → w'.cell? p = some u)
    (hl : ∀ w', w'.cell? p = some u → (execOp a.eval o).run P w' = .ok (.value v) w')
    (h : ∀ K : Act → Prop, (∀ a, wpCan P ops Q k rest F a w → K a) → K (a.put o.dst v)) : wpCan P ops Q k (.op i 1 rest) F a w :=
  held hi hg ⟨v, fun w' hf => hl w' (hF w' hf), h⟩
end CanT
end Go.Proofs.YtiofkhjpknfkgaaDoor
/- Operations: whether they are the same, and whether they are few and small: plain words. -/
namespace Go.Proofs.YtiofkhjpknfkgaaDoor
namespace Tm
set_option linter.unusedVariables false
def sameO (a b : O) : Bool := (a.copy == b.copy) && (decide (a.pos = b.pos) && (decide (a.n = b.n) && (a.data == b.data)))
def sameK : List O → List O → Bool
  | x :: s, y :: t => if sameO x y then sameK s t else false
  | _, _ => true
def same (a b : List O) : Bool := if a.length = b.length then sameK a b else false
theorem sameO_refl (a : O) : sameO a a = true := by simp [sameO]
theorem sameK_refl : ∀ l : List O, sameK l l = true
  | [] => rfl
  | x :: l => by unfold sameK; rw [if_pos (sameO_refl x)]; exact sameK_refl l
theorem same_refl (l : List O) : same l l = true := by unfold same; rw [if_pos rfl]; exact sameK_refl l
theorem sameK_nil (l m : List O) (k : Nat) (h : l.length ≤ k) : sameK (l.drop k) (m.drop k) = true := by rw [List.drop_of_length_le h]; rfl
def at_ (l : List O) (k : Nat) : O := l.getD k ⟨false, 0, 0, []⟩
theorem drop_at (l : List O) (k : Nat) (h : k < l.length) : l.drop k = at_ l k :: l.drop (k + 1) := by
  rw [List.drop_eq_getElem_cons h]
  simp [at_, List.getD, h]
theorem sameK_step (l m : List O) (k : Nat) (h : k < l.length) (h2 : k < m.length) : sameK (l.drop k) (m.drop k) = if sameO (at_ l k) (at_ m k) then sameK (l.drop (k + 1)) (m.drop (k + 1)) else false := by
  rw [drop_at l k h, drop_at m k h2]
  rfl
def lightK (size : Nat) : List O → Nat → Bool
  | [], _ => true
  | x :: t, n => if size < n + min x.data.length (size + 1) then false else if 1099511627776 < x.n then false else if x.n < -1099511627776 then false else lightK size t (n + min x.data.length (size + 1))
def light (l : List O) (most size : Nat) : Bool := if most < l.length then false else lightK size l 0
def sumD : List O → Nat
  | [] => 0
  | x :: t => x.data.length + sumD t
theorem lightK_sum (size : Nat) : ∀ (l : List O) (n : Nat), n ≤ size → lightK size l n = true → n + sumD l ≤ size ∧ ∀ x ∈ l, -1099511627776 ≤ x.n ∧ x.n ≤ 1099511627776 ∧ x.data.length ≤ size
  | [], n, h0, h => ⟨by simpa [sumD] using h0, by simp⟩
  | x :: t, n, h0, h => by
    unfold lightK at h
    split at h
    · cases h
    rename_i h1
    split at h
    · cases h
    rename_i h2
    split at h
    · cases h
    rename_i h3
    obtain ⟨a1, a2⟩ := lightK_sum size t _ (by omega) h
    refine ⟨by unfold sumD; omega, fun y hy => ?_⟩
    rcases List.mem_cons.1 hy with rfl | hy
    · exact ⟨by omega, by omega, by omega⟩
    · exact a2 y hy
theorem light_facts {l : List O} {most size : Nat} (h : light l most size = true) : l.length ≤ most ∧ sumD l ≤ size ∧ ∀ x ∈ l, -1099511627776 ≤ x.n ∧ x.n ≤ 1099511627776 ∧ x.data.length ≤ size := by
  unfold light at h
  split at h
  · cases h
  · have := lightK_sum size l 0 (Nat.zero_le _) h
    exact ⟨by omega, by omega, this.2⟩
theorem lightK_step (size : Nat) (l : List O) (k n : Nat) (h : k < l.length) : lightK size (l.drop k) n =
    if size < n + min (at_ l k).data.length (size + 1) then false else if 1099511627776 < (at_ l k).n then false else if (at_ l k).n < -1099511627776 then false else lightK size (l.drop (k + 1)) (n + min (at_ l k).data.length (size + 1)) := by
  rw [drop_at l k h]
  rfl
theorem lightK_end (size : Nat) (l : List O) (k n : Nat) (h : l.length ≤ k) : lightK size (l.drop k) n = true := by rw [List.drop_of_length_le h]; rfl
theorem sumD_take (l : List O) (k : Nat) : sumD (l.take k) ≤ sumD l := by
  induction l generalizing k with
  | nil => simp [sumD]
  | cons x l ih =>
    cases k with
    | zero => simp [sumD]
    | succ k => have := ih k; simp only [List.take_succ_cons, sumD]; omega
theorem mem_at (l : List O) (k : Nat) (h : k < l.length) : at_ l k ∈ l := by
  unfold at_
  rw [List.getD_eq_getElem?_getD, List.getElem?_eq_getElem h]
  exact List.getElem_mem h
end Tm
end Go.Proofs.YtiofkhjpknfkgaaDoor
/- A search of the program: its state; bytes are told. -/
namespace Go.Proofs.YtiofkhjpknfkgaaDoor
namespace Ms
open Go.RowKit Ba Tm Os_
set_option linter.unusedVariables false
theorem sl_lhA {P : Program} (t e : TypeId) (i : TypeInfo) (hu : P.underlying t = some (.slice e)) (hi : IsByte P e i) (A : Option Addr) (n cap : Nat) (l h : Int) (p q : Nat) (hl : l = p) (hh : h = q) (h1 : p ≤ q) (h2 : q ≤ cap) (w : World) :
    (Instr.slice t (.slice A n cap) (some (.int .i64 l)) (some (.int .i64 h)) none).run P w = .ok (.slice (if cap = p then A else A.map (·.add p)) (q - p) (cap - p)) w := by
  subst hl hh
  rw [run_slice_lh w t A n cap (by rw [elem_of hu]; exact hu) .i64 .i64 (p : Int) (q : Int) (by omega) (by omega) (by omega), elem_of hu]
  have hs : (sizeOf e).run P w = .ok 1 w := by simp [sizeOf, typeInfo, hi.1, hi.2.2.1]
  rw [hs]
  simp only [Result.andThen_ok, sliced]
  have e1 : (q : Int).toNat - (p : Int).toNat = q - p := by omega
  have e2 : (p : Int).toNat = p := by omega
  rw [e1, e2, Nat.mul_one]
/-- operations that are written out -/
theorem own1 (w : World) (base : Nat) (hb : base ≤ w.heap.size) (x : Ow) : OwnRow opv 4 (w.alloc (.cells (opv x).toArray 40)) base 40 (.slice (some ⟨w.heap.size, 0, none⟩) 1 1) [x] := by
  refine ⟨RWf.one (opv_len x) (opv_one x), by rw [rows_one]; rfl, .inr ⟨w.heap.size, 1, (opv x).toArray, rfl, hb, heap_alloc_new w _, Nat.le_refl _, by unfold maxLen; omega, by rfl, ?_⟩⟩
  rw [rows_one]
  rfl
set_option maxRecDepth 100000 in
set_option maxHeartbeats 2000000 in
theorem whole_calls (b : List UInt8) (A : Option Addr) (n c : Nat) (hn : n = b.length) (hc : b.length ≤ c) (hl : b.length ≤ 1000000) (w : World) (h : ReadB w w.heap.size A b) :
    Calls Tryd.prog 20 #[.slice A n c] w fun e w' => ∃ v M, e = .returned v ∧ OwnO w' w.heap.size v M ∧ ops M = whole b ∧ Below w.heap.size w w' := by
  obtain ⟨iO, hiO⟩ := isOp
  have Hi := Lib.hid hiO
  by_cases h0 : n = 0
  · have He := Lib.hid (whole_nil b (by omega))
    subst h0
    clear hn hiO
    go_enter Tryd.func20, Tryd.ntmps20
    go_wp2_with fail
    go_ret
    exact ⟨_, [], rfl, OwnO.nil, He.out.symm, Below.refl _ _⟩
  · have hcl := Cl.cloneN hn hc (by omega) h
    have Hcl := Lib.hid hcl
    have he : whole b = [lit b] := if_neg (by omega)
    have He := Lib.hid he
    have hz : ¬ (n : Int) = 0 := by omega
    have Hn := Lib.hid hn
    clear hcl he hn h hiO
    go_enter Tryd.func20, Tryd.ntmps20
    go_wp2_with fail
    refine Calls.mono Hcl.out ?_
    rintro e1 w1 ⟨v1, rfl, ho1, hb1⟩
    obtain ⟨A1, c1, rfl, p1, m1, -, -⟩ := ho1.opens
    have Hrt := Lib.hid (RT.of_own ho1)
    have Hb1 := Lib.hid hb1
    have Hp1 := Lib.hid p1
    have Hm1 := Lib.hid m1
    clear ho1 hb1 p1 m1
    go_wp2_with (refine wpList_bslice _ rfl 31 40 1 _ rfl Tryd.underlying31 iO 4 48 Hi.out (by omega) (by omega) [(0, .agg #[.bool false, .int .i64 0, .int .i64 0, .slice A1 b.length c1])] rfl [.bool false, .int .i64 0, .int .i64 0, .slice A1 b.length c1] (fun Z hZ => fill_one 4 (.agg #[.bool false, .int .i64 0, .int .i64 0, .slice A1 b.length c1]) rfl Z hZ) ?_)
    go_ret
    refine ⟨_, [(lit b, A1, c1)], rfl, ⟨own1 w1 w.heap.size Hb1.out.size (lit b, A1, c1), fun x hx => ?_⟩, by rw [He.out]; rfl, Hb1.out.alloc Hb1.out.size _⟩
    rw [List.mem_singleton] at hx
    subst hx
    exact WfT.below (w := w1) ⟨by simp [lit], by simp [lit], Hp1.out, Hm1.out, Hrt.out⟩ ((Below.refl _ _).alloc (Nat.le_refl _) _)
/-- a search's state in block g: the new file, the place from which on nothing is told yet, what is -/
def IsF (w : World) (base g : Nat) (A : Option Addr) (n c frm : Nat) (L : List Ow) : Prop :=
  base ≤ g ∧ ∃ u, Blk w g 64 #[.slice A n c, .int .i64 (frm : Int), u] ∧ OwnO w base u L
theorem fdr_ne : (5 : TypeId) ≠ 64 := by decide
theorem fop_ne : (40 : TypeId) ≠ 64 := by decide
section
variable {w w' : World} {base g : Nat} {A : Option Addr} {n c frm : Nat} {L : List Ow}
theorem IsF.lt (h : IsF w base g A n c frm L) : g < w.heap.size := by obtain ⟨_, u, h, _⟩ := h; exact h.lt
theorem IsF.below (h : IsF w base g A n c frm L) (hb : Below w.heap.size w w') : IsF w' base g A n c frm L := by
  obtain ⟨h0, u, h1, h2⟩ := h
  exact ⟨h0, u, h1.below hb h1.lt, h2.keptB hb⟩
end
theorem ownO_ne {w : World} {base g : Nat} {u : Value} {L : List Ow} {t : TypeId} {cs : Array Value} (ho : OwnO w base u L) (hB : Blk w g t cs) (hne : (40 : TypeId) ≠ t) : u.ownBlock ≠ some g := fun e => by
  obtain ⟨cs', h'⟩ := own_blk ho.1 g e
  exact Blk.ne_ h' hB hne rfl
theorem ownO_far {w : World} {base g i : Nat} {u x : Value} {L : List Ow} {t : TypeId} {cs : Array Value} (ho : OwnO w base u L) (hB : Blk w g t cs) (hne : (40 : TypeId) ≠ t) (hne2 : (5 : TypeId) ≠ t) : OwnO (w.setCell ⟨g, i, none⟩ x) base u L :=
  ho.grown (only_set w g i x) (.inr (ownO_ne ho hB hne)) (fun g' hg' => by injection hg' with hg'; subst hg'; exact ⟨_, _, hB, hne2⟩)
set_option maxRecDepth 100000 in
set_option maxHeartbeats 4000000 in
theorem literal_calls {w : World} {base g : Nat} {A : Option Addr} {n c frm : Nat} {L : List Ow} (h : IsF w base g A n c frm L) (b : List UInt8) (hn : n = b.length) (hc : n ≤ c) (hcm : c ≤ 9223372036854775807) (hr : ReadB w base A b) (hbl : n ≤ 1000000) (to : Nat) (h1 : frm ≤ to) (h2 : to ≤ n) (hL : L.length ≤ 1000000) :
    Calls Tryd.prog 37 #[.pointer (some ⟨g, 0, none⟩), .int .i64 (to : Int)] w fun e w' => e = .returned (.tuple #[]) ∧ ∃ M, IsF w' base g A n c to (L ++ M) ∧ ops M = whole (cut b frm to) ∧ Below base w w' := by
  obtain ⟨hbg, u, hB, ho⟩ := h
  obtain ⟨iO, hiO⟩ := isOp
  obtain ⟨i0, hi0⟩ := isByte_of Cl.info5
  have Hi := Lib.hid hiO
  have Hi0 := Lib.hid hi0
  have hbw : base ≤ w.heap.size := Nat.le_trans hbg (Nat.le_of_lt hB.lt)
  obtain ⟨A2, hA2⟩ : ∃ A2, A2 = if c = frm then A else A.map (·.add frm) := ⟨_, rfl⟩
  obtain ⟨c2, hc2⟩ : ∃ c2, c2 = c - frm := ⟨_, rfl⟩
  obtain ⟨m2, hm2⟩ : ∃ m2, m2 = to - frm := ⟨_, rfl⟩
  have hsl := fun w' => sl_lhA (P := Tryd.prog) 22 5 i0 Tryd.underlying22 Hi0.out A n c (frm : Int) (to : Int) frm to rfl rfl h1 (by omega) w'
  rw [← hA2, ← hc2, ← hm2] at hsl
  have hml : m2 = (cut b frm to).length := by rw [cut_len b frm to h1 (by omega)]; exact hm2
  have hrA : ReadB w base A2 (cut b frm to) := by
    rw [hA2]
    exact (hr.cut (by omega)).take _
  have hwh := whole_calls (cut b frm to) A2 m2 c2 hml (by omega) (by omega)
  have Hml := Lib.hid hml
  have HrA := Lib.hid hrA
  have Hwh := Lib.hid hwh
  have HB := Lib.hid hB
  have HO := Lib.hid ho
  have Hne := Lib.hid (ownO_ne ho hB fop_ne)
  have Hbw := Lib.hid hbw
  have Hbg := Lib.hid hbg
  have HL := Lib.hid hL
  obtain ⟨W1, hW1⟩ : ∃ W1, W1 = whole (cut b frm to) := ⟨_, rfl⟩
  have HW1 := Lib.hid hW1
  rw [← hW1] at Hwh ⊢
  have Hn := Lib.hid hn
  clear hn hA2 hc2 hm2 hml hrA hwh hB ho hbw hr hi0 hiO hbg hL hW1
  go_enter Tryd.func37, Tryd.ntmps37
  go_wp2_with fail
  have HBd : Hid (Blk w.drew g 64 #[.slice A n c, .int .i64 (frm : Int), u]) := HB
  have HOd : Hid (OwnO w.drew base u L) := HO
  have HrAd : Hid (ReadB w.drew base A2 (cut b frm to)) := HrA
  have Hbwd : Hid (base ≤ w.drew.heap.size) := Hbw
  have Hd : Hid (Below base w w.drew) := Lib.hid (Below.refl _ _).drew
  refine CanT.region (fun w' => Blk w' g 64 #[.slice A n c, .int .i64 (frm : Int), u]) 19 (.op 0 2 (.op 1 2 (.op 2 2 (.op 3 2 (.op 4 1 (.op 5 2 (.op 6 2 (.op 7 2 (.op 8 1 (.op 9 2 (.op 10 2 (.op 11 2 (.op 12 1 (.op 13 2 (.op 14 2 (.op 15 0 (.op 16 0 (.op 17 2 (.op 18 2 (.op 19 0 (.nil))))))))))))))))))))) (by kernel_rfl) (by kernel_rfl) HBd.out ?_
  generalize w.drew = W at *
  repeat (first | (refine CanT.skip rfl ?_ (fun K hK => ?_); (focus (go_simp; done)); go_simp; refine hK _ ?_; clear hK K) | (refine CanT.pur rfl ?_ ?_; (focus (go_simp; done)); refine ⟨?_, ?_, ?_⟩; rotate_left; (focus (intro w'; go_simp; rfl)); (focus (intro K hK; go_simp; refine hK _ ?_; clear hK K))) | (refine CanT.cellG rfl ?_ (.slice A n c) (.slice A n c) ⟨g, 0, none⟩ (fun w' h => by rw [Blk.cell h]; rfl) ?_ (fun K hK => ?_); (focus (go_simp; done)); (focus (intro w' hc'; go_simp; (try rfl))); go_simp; refine hK _ ?_; clear hK K) | (refine CanT.cellG rfl ?_ (.int .i64 (frm : Int)) (.int .i64 (frm : Int)) ⟨g, 1, none⟩ (fun w' h => by rw [Blk.cell h]; rfl) ?_ (fun K hK => ?_); (focus (go_simp; done)); (focus (intro w' hc'; go_simp; (try rfl))); go_simp; refine hK _ ?_; clear hK K) | (refine CanT.cellG rfl ?_ (u) (u) ⟨g, 2, none⟩ (fun w' h => by rw [Blk.cell h]; rfl) ?_ (fun K hK => ?_); (focus (go_simp; done)); (focus (intro w' hc'; go_simp; (try rfl))); go_simp; refine hK _ ?_; clear hK K))
  refine CanT.imp rfl (fun K hK => ?_)
  go_simp
  refine (Hwh.out W (HrAd.out.more Hbwd.out)).mono ?_
  rintro e w1 ⟨v1, M, rfl, ho1, hM1, hb1⟩
  obtain ⟨A3, c3, rfl, p3, m3, q3, -⟩ := ho1.opens
  have hml1 : M.length ≤ 1 := by rw [← ops_len, hM1, HW1.out]; exact whole_len _
  have HO1 := Lib.hid ho1
  have HM1 := Lib.hid hM1
  have HB1 := Lib.hid (HBd.out.below hb1 HBd.out.lt)
  have HOf := Lib.hid (HOd.out.keptB hb1)
  have HD1 := Lib.hid (Hd.out.trans (hb1.mono Hbwd.out))
  have HR3 := Lib.hid q3
  have Hs1 : Hid (base ≤ w1.heap.size) := Lib.hid (Nat.le_trans Hbwd.out hb1.size)
  have Hml1 := Lib.hid hml1
  clear ho1 hM1 hb1 p3 m3 q3 hml1
  (try go_simp)
  refine hK.out _ _ HB1.out ?_
  clear hK K
  refine CanT.imp rfl (fun K hK => ?_)
  refine step_appR _ ?_ (.tmp 8) (.tmp 19) 31 rfl base 40 iO 48 Tryd.underlying31 Hi.out (by omega) u L rfl HOf.out.1 w1.heap.size A3 M.length c3 M rfl rfl HR3.out.1 (by have := HL.out; have := Hml1.out; omega) (by have := HL.out; have := Hml1.out; omega) Hs1.out ?_
  focus (go_simp; done)
  intro v4 w4 ho4 hg4 _ hb4
  have HB4 := Lib.hid (HB1.out.grown hg4 (fun e => Hne.out e.symm))
  have HO4 := Lib.hid (HOf.out.app ho4 hg4 (fun x hx => HO1.out.2 x hx))
  have HD4 := Lib.hid (HD1.out.trans hb4)
  clear ho4 hg4 hb4
  obtain ⟨A4, n4, c4, hv4⟩ : ∃ A4 n4 c4, v4 = .slice A4 n4 c4 := by obtain ⟨A4, c4, e4, -⟩ := HO4.out.opens; exact ⟨A4, _, c4, e4⟩
  subst hv4
  (try go_simp)
  refine hK.out _ _ HB4.out ?_
  clear hK K
  repeat (first | (refine CanT.skip rfl ?_ (fun K hK => ?_); (focus (go_simp; done)); go_simp; refine hK _ ?_; clear hK K) | (refine CanT.pur rfl ?_ ?_; (focus (go_simp; done)); refine ⟨?_, ?_, ?_⟩; rotate_left; (focus (intro w'; go_simp; rfl)); (focus (intro K hK; go_simp; refine hK _ ?_; clear hK K))))
  have hc2 : w4.cell? ⟨g, 2, none⟩ = some u := by rw [Blk.cell HB4.out]; rfl
  have hfz := Blk.frozen HB4.out
  refine CanT.last rfl (fun K hK => ?_)
  go_simp
  refine hK.out _ _ ?_
  clear hK K
  refine CanT.done ?_
  have HB5 : Hid (Blk (w4.setCell ⟨g, 2, none⟩ (.slice A4 n4 c4)) g 64 #[.slice A n c, .int .i64 (frm : Int), (.slice A4 n4 c4)]) := Lib.hid (Blk.set_ HB4.out 2 (.slice A4 n4 c4))
  have HO5 : Hid (OwnO (w4.setCell ⟨g, 2, none⟩ (.slice A4 n4 c4)) base (.slice A4 n4 c4) (L ++ M)) := Lib.hid (ownO_far HO4.out HB4.out fop_ne fdr_ne)
  have HD5 : Hid (Below base w (w4.setCell ⟨g, 2, none⟩ (.slice A4 n4 c4))) := Lib.hid (HD4.out.setCell (p := ⟨g, 2, none⟩) Hbg.out (.slice A4 n4 c4))
  have hc1 : w4.cell? ⟨g, 1, none⟩ = some (.int .i64 (frm : Int)) := by rw [Blk.cell HB4.out]; rfl
  have hc1' : (w4.setCell ⟨g, 2, none⟩ (.slice A4 n4 c4)).cell? ⟨g, 1, none⟩ = some (.int .i64 (frm : Int)) := by rw [Blk.cell HB5.out]; rfl
  have hfz' := Blk.frozen HB5.out
  go_wp2_with fail
  refine bodyPost_end (results_none rfl _ _ _) rfl ?_
  exact ⟨rfl, M, ⟨Hbg.out, (.slice A4 n4 c4), Blk.set_ HB5.out 1 (.int .i64 (to : Int)), ownO_far HO5.out HB5.out fop_ne fdr_ne⟩, HM1.out, HD5.out.setCell (p := ⟨g, 1, none⟩) Hbg.out _⟩
end Ms
end Go.Proofs.YtiofkhjpknfkgaaDoor

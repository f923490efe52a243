/- The sums of a file's blocks, of the program. -/
import Derived.Test.YtiofkhjpknfkgaaDoorP01
import Derived.Test.YtiofkhjpknfkgaaDoorP02
import Derived.Test.YtiofkhjpknfkgaaDoorP03
import Derived.Test.YtiofkhjpknfkgaaDoorP04
import Derived.Test.YtiofkhjpknfkgaaDoorP05
import Derived.Test.YtiofkhjpknfkgaaDoorP06
import Derived.Test.YtiofkhjpknfkgaaDoorP07
namespace Go.Proofs.YtiofkhjpknfkgaaDoor
namespace Bk
open Go.RowKit Ba Sm Ro
set_option linter.unusedVariables false
set_option maxRecDepth 100000 in
set_option maxHeartbeats 2000000 in
theorem sign_calls (b : List UInt8) (size : Int) (A : Option Addr) (c : Nat) (w : World) (hr : ReadB w w.heap.size A b) (hbc : b.length ≤ c) (hcm : c ≤ 9223372036854775807) (hsz : -9223372036854775808 ≤ size ∧ size ≤ 9223372036854775807) (htab : Tab w) :
    Calls Tryd.prog 22 #[.slice A b.length c, .int .i64 size] w
      fun e w' => ∃ v, e = .returned (.tuple #[v, .int .i64 (sign size b).2]) ∧ OwnRow sgv 33 w' w.heap.size 60 v (sign size b).1 ∧ Below w.heap.size w w' := by
  by_cases h1 : 1 ≤ size ∧ size ≤ 4096
  · obtain ⟨z, rfl⟩ : ∃ z : Nat, size = (z : Int) := ⟨size.toNat, by omega⟩
    have hm := may_calls (z : Int) true (by simp; omega)
    have Hm := Lib.hid hm
    clear hm
    by_cases h2 : b.length ≤ 65536 ∧ b.length / z ≤ 4096
    · have hs : sign (z : Int) b = (signK z b (b.length / z), 0) := by unfold sign; rw [if_neg (by omega), if_neg (by simp; omega)]; simp
      rw [hs]
      obtain ⟨n, hn⟩ : ∃ n, n = b.length / z := ⟨_, rfl⟩
      rw [← hn] at h2 ⊢
      have hnz : n * z ≤ b.length := by rw [hn]; exact Nat.div_mul_le_self _ _
      have hnz2 : b.length < n * z + z := by rw [hn]; have h5 := Nat.div_add_mod b.length z; have h6 := Nat.mod_lt b.length (show z > 0 by omega); rw [Nat.mul_comm] at h5; omega
      have hdiv : (b.length : Int).tdiv (z : Int) = (n : Int) := by rw [hn]; exact Int.ofNat_tdiv _ _ |>.symm
      have hz0 : (z : Int) ≠ 0 := by omega
      obtain ⟨i0, hi0⟩ := isRec_of infoSig
      have Hi := Lib.hid hi0
      have Hr := Lib.hid hr
      have Htab := Lib.hid htab
      have Hnz := Lib.hid hnz
      have Hnz2 := Lib.hid hnz2
      have Hn := Lib.hid hn
      clear hi0 hr htab hnz hnz2 hn hs
      go_enter Tryd.func22, Tryd.ntmps22
      go_wp2_with (go_at_call 53; refine (Hm.out _).mono ?_; rintro e w1 ⟨rfl, rfl⟩)
      go_loopg [0, 6] n (fun m v0 v6 wr => ∃ (k : Nat) (A' : Option Addr) (c' : Nat) (r : List UInt8), k ≤ n ∧ m = n - k ∧ r = b.drop (k * z) ∧ v0 = .slice A' r.length c' ∧ r.length ≤ c' ∧ c' ≤ 9223372036854775807 ∧ ReadB w w.heap.size A' r ∧ OwnRow sgv 33 wr w.heap.size 60 v6 (signK z b k) ∧ Below w.heap.size w wr)
      case atStart => exact ⟨0, A, c, b, by omega, rfl, by simp, rfl, hbc, hcm, Hr.out, OwnRow.nil, Below.refl _ _⟩
      case round =>
        obtain ⟨k, A', c', r, hk, hm, hrd, rfl, hrc, hcc, hrA, ho, hb⟩ := hrel
        have hrl : r.length = b.length - k * z := by rw [hrd, List.length_drop]
        have Hm2 := Lib.hid hm
        have Hrd := Lib.hid hrd
        have HrA := Lib.hid hrA
        have Ho := Lib.hid ho
        have Hb := Lib.hid hb
        have Hrl := Lib.hid hrl
        have hr64 : r.length ≤ 65536 := by omega
        clear hm hrd hrA ho hb hrl Hr
        by_cases hkn : k < n
        · have hzr : z ≤ r.length := by
            have e1 : (k + 1) * z ≤ n * z := Nat.mul_le_mul_right z hkn
            rw [Nat.add_mul, Nat.one_mul] at e1
            have := Hnz.out
            have := Hrl.out
            omega
          have t1 : decide ((z : Int) ≤ (r.length : Int)) = true := by rw [decide_eq_true_eq]; omega
          have i1 : (0 : Int) ≤ (z : Int) := by omega
          have i2 : (z : Int) ≤ (c' : Int) := by omega
          have i3 : (z : Int) ≤ (r.length : Int) := by omega
          have Hx : Hid (ReadB wr.drew w.heap.size A' (r.take z)) := Lib.hid ((HrA.out.below Hb.out).take z)
          have Hfl : Hid ([r.take z].flatten = r.take z) := Lib.hid (by simp)
          have hba := (Below.refl wr.drew.heap.size wr.drew).alloc (Nat.le_refl _) (.cells #[.slice A' z c'] 22)
          have Hbb : Hid (ReadBB (wr.drew.alloc (.cells #[.slice A' z c'] 22)) (wr.drew.alloc (.cells #[.slice A' z c'] 22)).heap.size (some ⟨wr.drew.heap.size, 0, none⟩) [r.take z]) := Lib.hid ((ReadBB.lit1 wr.drew 22 A' z c' (r.take z) w.heap.size wr.drew.heap.size rfl Hb.out.size (by rw [List.length_take]; omega) Hx.out (by rw [List.length_take]; omega) hcc).more (by simp))
          have Htab1 : Hid (Tab (wr.drew.alloc (.cells #[.slice A' z c'] 22))) := Lib.hid (Htab.out.below ((Hb.out.drew).alloc (by simpa using Hb.out.size) _))
          have Ho := Lib.hid Ho.out.drew
          have Hb := Lib.hid Hb.out.drew
          obtain ⟨x1, hx1⟩ : ∃ x1, rsum (r.take z) = x1 := ⟨_, rfl⟩
          obtain ⟨x2, hx2⟩ : ∃ x2, sha (r.take z) = x2 := ⟨_, rfl⟩
          have Hl2 : Hid (x2.length = 32) := Lib.hid (by rw [← hx2]; exact hash_len _)
          have Hx1 := Lib.hid hx1
          have Hx2 := Lib.hid hx2
          clear hx1 hx2
          go_wp2_with fail
          refine CanT.region (fun _ => True) 1000 (.op 0 2 (.op 1 2 (.op 2 2 (.op 3 2 (.op 5 2 (.op 6 2 (.op 7 2 (.fork (.op 4 0 (.op 8 0 (.op 9 0 (.op 10 2 (.op 11 0 (.op 12 0 (.op 13 2 (.nil)))))))) (.op 8 0 (.op 4 0 (.op 9 0 (.op 10 2 (.op 11 0 (.op 12 0 (.op 13 2 (.nil)))))))))))))))) (by kernel_rfl) (by kernel_rfl) trivial ?_
          generalize wr.drew = wr at *
          repeat (first | (refine CanT.skip rfl ?_ (fun K hK => ?_); (focus (go_simp; done)); go_simp; refine hK _ ?_; clear hK K) | (refine CanT.pur rfl ?_ ?_; (focus (go_simp; done)); refine ⟨?_, ?_, ?_⟩; rotate_left; (focus (intro w'; go_simp; rfl)); (focus (intro K hK; go_simp; refine hK _ ?_; clear hK K))))
          refine CanT.both ?_ ?_
          · refine CanT.imp rfl (fun K hK => ?_)
            go_simp
            refine (sum_calls (l := r.take z) (by rw [List.length_take]; omega) Hx.out (by rw [List.length_take]; omega)).mono ?_
            rw [Hx1.out]
            rintro e w1 ⟨rfl, rfl⟩
            (try go_simp)
            refine hK.out _ _ (trivial) ?_
            clear hK K
            refine CanT.imp rfl (fun K hK => ?_)
            go_simp
            refine hK.out _ _ (trivial) ?_
            clear hK K
            refine CanT.imp rfl (fun K hK => ?_)
            go_simp
            refine (of_calls [r.take z] (some ⟨wr.heap.size, 0, none⟩) 1 _ (Hbb.out) (Htab1.out) (by simp) (by omega) (by intro p hp; simp at hp; subst hp; rw [List.length_take]; omega) (by simp; omega)).mono ?_
            rw [Hfl.out, Hx2.out]
            rintro e w2 ⟨rfl, hb2⟩
            have hb2' := hba.trans (hb2.mono (by simp))
            have Ho2 := Lib.hid (Ho.out.keptB hb2')
            have Hb2 := Lib.hid (Hb.out.trans (hb2'.mono Hb.out.size))
            clear hb2 hb2'
            (try go_simp)
            refine hK.out _ _ (trivial) ?_
            clear hK K
            repeat (first | (refine CanT.skip rfl ?_ (fun K hK => ?_); (focus (go_simp; done)); go_simp; refine hK _ ?_; clear hK K) | (refine CanT.pur rfl ?_ ?_; (focus (go_simp; done)); refine ⟨?_, ?_, ?_⟩; rotate_left; (focus (intro w'; go_simp; rfl)); (focus (intro K hK; go_simp; refine hK _ ?_; clear hK K))) | (refine CanT.bld rfl ?_ 60 _ rfl #[(0, .int .u32 (x1 : Int)), (1, .agg (bvs x2).toArray)] rfl _ (fun w' => run_sig x1 x2 Hl2.out w') (fun K hK => ?_); (focus (go_simp; done)); go_simp; refine hK _ ?_; clear hK K))
            refine CanT.imp rfl (fun K hK => ?_)
            refine step_bslice _ ?_ 27 60 1 _ rfl Tryd.underlying27 i0 33 36 Hi.out (by omega) (by omega) [(0, .agg (sgv (x1, x2)).toArray)] rfl (sgv (x1, x2)) (fun Z hZ => fill_one 33 (.agg (sgv (x1, x2)).toArray) (sgv_len Hl2.out) Z hZ) ?_
            focus (go_simp; done)
            (try go_simp)
            refine hK.out _ _ (trivial) ?_
            clear hK K
            refine CanT.imp rfl (fun K hK => ?_)
            refine step_appR _ ?_ (.tmp 29) (.tmp 40) 27 rfl w.heap.size 60 i0 36 Tryd.underlying27 Hi.out (by omega) _ _ rfl (Ho2.out.alloc _) _ _ 1 1 [(x1, x2)] rfl rfl (ReadRow.lit1 w2 60 _ (x1, x2) rfl (sgv_len Hl2.out) (sgv_one _)) (by rw [signK_len]; simp; omega) (by rw [signK_len]; simp; omega) (by have := Hb2.out.size; simp; omega) ?_
            focus (go_simp; done)
            intro v3 w3 ho3 _ _ hb3
            have Ho3 := Lib.hid ho3
            have Hb3 := Lib.hid ((Hb2.out.alloc Hb2.out.size _).trans hb3)
            clear ho3 hb3
            (try go_simp)
            refine hK.out _ _ (trivial) ?_
            clear hK K
            repeat (first | (refine CanT.skip rfl ?_ (fun K hK => ?_); (focus (go_simp; done)); go_simp; refine hK _ ?_; clear hK K) | (refine CanT.pur rfl ?_ ?_; (focus (go_simp; done)); refine ⟨?_, ?_, ?_⟩; rotate_left; (focus (intro w'; go_simp; rfl)); (focus (intro K hK; go_simp; refine hK _ ?_; clear hK K))))
            refine CanT.done ?_
            have hnext : ∀ (A2 : Option Addr) (c2 : Nat), A2 = (if c' = z then A' else A'.map (·.add z)) → c2 = c' - z → ∃ r2, r2 = b.drop ((k + 1) * z) ∧ r2.length = r.length - z ∧ r2.length ≤ c2 ∧ c2 ≤ 9223372036854775807 ∧ ReadB w w.heap.size A2 r2 := by
              intro A2 c2 hA2 hc2
              refine ⟨r.drop z, by rw [Hrd.out, List.drop_drop, Nat.add_mul, Nat.one_mul], by rw [List.length_drop], by rw [List.length_drop]; omega, by omega, ?_⟩
              rw [hA2]
              exact HrA.out.cut hrc
            have Hnext := Lib.hid hnext
            have hs3 : signK z b (k + 1) = signK z b k ++ [(x1, x2)] := by
              rw [signK_succ]
              have e : sgOf (blk z b k) = (x1, x2) := by unfold blk sgOf; rw [← Hrd.out, Hx1.out, Hx2.out]
              rw [e]
            have Hs3 := Lib.hid hs3
            clear hnext hs3
            by_cases hcz : c' = z
            all_goals
              go_wp2
              go_roundg (n - (k + 1))
              case rel =>
                obtain ⟨r2, q1, q2, q3, q4, q5⟩ := Hnext.out _ _ rfl rfl
                refine ⟨k + 1, _, _, r2, by omega, rfl, q1, ?_, q3, q4, q5, by rw [Hs3.out]; exact Ho3.out, Hb3.out⟩
                rw [q2]
                simp [hcz]
              case measure => have := Hm2.out; omega
          · refine CanT.imp rfl (fun K hK => ?_)
            go_simp
            refine hK.out _ _ (trivial) ?_
            clear hK K
            refine CanT.imp rfl (fun K hK => ?_)
            go_simp
            refine (sum_calls (l := r.take z) (by rw [List.length_take]; omega) (Hx.out.alloc Hb.out.size _) (by rw [List.length_take]; omega)).mono ?_
            rw [Hx1.out]
            rintro e w1 ⟨rfl, rfl⟩
            (try go_simp)
            refine hK.out _ _ (trivial) ?_
            clear hK K
            refine CanT.imp rfl (fun K hK => ?_)
            go_simp
            refine (of_calls [r.take z] (some ⟨wr.heap.size, 0, none⟩) 1 _ (Hbb.out) (Htab1.out) (by simp) (by omega) (by intro p hp; simp at hp; subst hp; rw [List.length_take]; omega) (by simp; omega)).mono ?_
            rw [Hfl.out, Hx2.out]
            rintro e w2 ⟨rfl, hb2⟩
            have hb2' := hba.trans (hb2.mono (by simp))
            have Ho2 := Lib.hid (Ho.out.keptB hb2')
            have Hb2 := Lib.hid (Hb.out.trans (hb2'.mono Hb.out.size))
            clear hb2 hb2'
            (try go_simp)
            refine hK.out _ _ (trivial) ?_
            clear hK K
            repeat (first | (refine CanT.skip rfl ?_ (fun K hK => ?_); (focus (go_simp; done)); go_simp; refine hK _ ?_; clear hK K) | (refine CanT.pur rfl ?_ ?_; (focus (go_simp; done)); refine ⟨?_, ?_, ?_⟩; rotate_left; (focus (intro w'; go_simp; rfl)); (focus (intro K hK; go_simp; refine hK _ ?_; clear hK K))) | (refine CanT.bld rfl ?_ 60 _ rfl #[(0, .int .u32 (x1 : Int)), (1, .agg (bvs x2).toArray)] rfl _ (fun w' => run_sig x1 x2 Hl2.out w') (fun K hK => ?_); (focus (go_simp; done)); go_simp; refine hK _ ?_; clear hK K))
            refine CanT.imp rfl (fun K hK => ?_)
            refine step_bslice _ ?_ 27 60 1 _ rfl Tryd.underlying27 i0 33 36 Hi.out (by omega) (by omega) [(0, .agg (sgv (x1, x2)).toArray)] rfl (sgv (x1, x2)) (fun Z hZ => fill_one 33 (.agg (sgv (x1, x2)).toArray) (sgv_len Hl2.out) Z hZ) ?_
            focus (go_simp; done)
            (try go_simp)
            refine hK.out _ _ (trivial) ?_
            clear hK K
            refine CanT.imp rfl (fun K hK => ?_)
            refine step_appR _ ?_ (.tmp 29) (.tmp 40) 27 rfl w.heap.size 60 i0 36 Tryd.underlying27 Hi.out (by omega) _ _ rfl (Ho2.out.alloc _) _ _ 1 1 [(x1, x2)] rfl rfl (ReadRow.lit1 w2 60 _ (x1, x2) rfl (sgv_len Hl2.out) (sgv_one _)) (by rw [signK_len]; simp; omega) (by rw [signK_len]; simp; omega) (by have := Hb2.out.size; simp; omega) ?_
            focus (go_simp; done)
            intro v3 w3 ho3 _ _ hb3
            have Ho3 := Lib.hid ho3
            have Hb3 := Lib.hid ((Hb2.out.alloc Hb2.out.size _).trans hb3)
            clear ho3 hb3
            (try go_simp)
            refine hK.out _ _ (trivial) ?_
            clear hK K
            repeat (first | (refine CanT.skip rfl ?_ (fun K hK => ?_); (focus (go_simp; done)); go_simp; refine hK _ ?_; clear hK K) | (refine CanT.pur rfl ?_ ?_; (focus (go_simp; done)); refine ⟨?_, ?_, ?_⟩; rotate_left; (focus (intro w'; go_simp; rfl)); (focus (intro K hK; go_simp; refine hK _ ?_; clear hK K))))
            refine CanT.done ?_
            have hnext : ∀ (A2 : Option Addr) (c2 : Nat), A2 = (if c' = z then A' else A'.map (·.add z)) → c2 = c' - z → ∃ r2, r2 = b.drop ((k + 1) * z) ∧ r2.length = r.length - z ∧ r2.length ≤ c2 ∧ c2 ≤ 9223372036854775807 ∧ ReadB w w.heap.size A2 r2 := by
              intro A2 c2 hA2 hc2
              refine ⟨r.drop z, by rw [Hrd.out, List.drop_drop, Nat.add_mul, Nat.one_mul], by rw [List.length_drop], by rw [List.length_drop]; omega, by omega, ?_⟩
              rw [hA2]
              exact HrA.out.cut hrc
            have Hnext := Lib.hid hnext
            have hs3 : signK z b (k + 1) = signK z b k ++ [(x1, x2)] := by
              rw [signK_succ]
              have e : sgOf (blk z b k) = (x1, x2) := by unfold blk sgOf; rw [← Hrd.out, Hx1.out, Hx2.out]
              rw [e]
            have Hs3 := Lib.hid hs3
            clear hnext hs3
            by_cases hcz : c' = z
            all_goals
              go_wp2
              go_roundg (n - (k + 1))
              case rel =>
                obtain ⟨r2, q1, q2, q3, q4, q5⟩ := Hnext.out _ _ rfl rfl
                refine ⟨k + 1, _, _, r2, by omega, rfl, q1, ?_, q3, q4, q5, by rw [Hs3.out]; exact Ho3.out, Hb3.out⟩
                rw [q2]
                simp [hcz]
              case measure => have := Hm2.out; omega
        · have hkn2 : k = n := by omega
          have t1 : decide ((z : Int) ≤ (r.length : Int)) = false := by
            rw [decide_eq_false_iff_not]
            have := Hnz2.out
            have := Hnz.out
            have := Hrl.out
            rw [hkn2] at this
            omega
          have t2 : decide (z ≤ r.length) = false := by
            rw [decide_eq_false_iff_not] at t1 ⊢
            omega
          have t3 : ¬ z ≤ r.length := by simpa using t2
          go_wp2_with fail
          go_ret2
          rw [hkn2] at Ho
          exact ⟨u6, rfl, Ho.out, Hb.out⟩
    · have hs : sign (z : Int) b = ([], 5) := by unfold sign; rw [if_neg (by omega), if_pos (by simp; omega)]
      rw [hs]
      have hdiv : (b.length : Int).tdiv (z : Int) = ((b.length / z : Nat) : Int) := Int.ofNat_tdiv _ _ |>.symm
      have hnl : b.length / z ≤ b.length := Nat.div_le_self _ _
      generalize b.length / z = n at hdiv h2 hnl
      have hz0 : (z : Int) ≠ 0 := by omega
      clear hr htab hs
      by_cases h3 : b.length ≤ 65536
      all_goals
        go_enter Tryd.func22, Tryd.ntmps22
        go_wp2_with (go_at_call 53; refine (Hm.out _).mono ?_; rintro e w1 ⟨rfl, rfl⟩)
        go_ret2
        exact ⟨_, rfl, OwnRow.nil, Below.refl _ _⟩
  · have hs : sign size b = ([], 2) := by unfold sign; rw [if_pos (by omega)]
    rw [hs]
    have hm := may_calls size false (by simp; omega)
    have Hm := Lib.hid hm
    clear hm hr htab hs
    go_enter Tryd.func22, Tryd.ntmps22
    go_wp2_with (go_at_call 53; refine (Hm.out _).mono ?_; rintro e w1 ⟨rfl, rfl⟩)
    go_ret2
    exact ⟨_, rfl, OwnRow.nil, Below.refl _ _⟩
end Bk
end Go.Proofs.YtiofkhjpknfkgaaDoor
/- Bytes of a constant text: the row is laid and marked; the mark changes no cell. -/
namespace Go.Proofs.YtiofkhjpknfkgaaDoor
namespace Li
open Go.RowKit Ba
set_option linter.unusedVariables false
/-- a world with a row marked -/
def mkB (w : World) (g : Nat) : World := match w.shape? g with
  | some (_, n) => w.freeze ⟨g, n, none⟩ 1
  | none => w
section
variable {P : Program}
theorem conv_run (t e : TypeId) (ht : P.underlying t = some (.slice e)) (he : P.underlying e = some (.int .u8)) (g n c : Nat) (w : World) :
    (convert t t (.slice (some ⟨g, 0, none⟩) n c)).run P w = .ok (.slice (some ⟨g, 0, none⟩) n c) (mkB w g) := by
  unfold mkB
  simp only [convert, Sem.run_bind, run_underlying ht, run_underlying he, Result.andThen_ok, beq_self_eq_true, markStringish]
  cases h : w.shape? g with
  | none => simp [h]
  | some p => obtain ⟨e', n'⟩ := p; simp [h]
theorem freeze_size (w : World) (a : Addr) (n : Nat) : (w.freeze a n).heap.size = w.heap.size := by
  unfold World.freeze; split <;> simp
theorem mkB_size (w : World) (g : Nat) : (mkB w g).heap.size = w.heap.size := by
  unfold mkB; split
  · exact freeze_size _ _ _
  · rfl
theorem mkB_grown (w : World) (g : Nat) : w.grownBy (mkB w g) (some g) := by
  unfold mkB
  split
  · refine ⟨?_, ?_, ?_, by rw [freeze_size]; exact Nat.le_refl _, fun i hi hne => ?_⟩
    · unfold World.freeze; rw [if_neg (by decide)]
    · unfold World.freeze; rw [if_neg (by decide)]
    · unfold World.freeze; rw [if_neg (by decide)]
    · unfold World.freeze
      rw [if_neg (by decide)]
      have : g ≠ i := fun e => hne (by rw [e])
      simp [Array.getElem?_modify, this]
  · exact World.grownBy.refl w _
theorem mkB_cell (w : World) (g : Nat) (b o : Nat) : (mkB w g).cell? ⟨b, o, none⟩ = w.cell? ⟨b, o, none⟩ := by
  by_cases hb : b = g
  · subst hb
    unfold mkB
    split
    · unfold World.freeze
      rw [if_neg (by decide)]
      unfold World.cell?
      simp only [Array.getElem?_modify, if_true]
      cases w.heap[b]? with
      | none => rfl
      | some ob =>
        cases ob with
        | cells c e fr => obtain ⟨lo, hi⟩ := fr; rfl
        | _ => rfl
    · rfl
  · rcases Nat.lt_or_ge b w.heap.size with h | h
    · exact World.cell?_of_block ((mkB_grown w g).block b h (by simpa using hb))
    · have h1 : w.heap[b]? = none := Array.getElem?_eq_none h
      have h2 : (mkB w g).heap[b]? = none := Array.getElem?_eq_none (by rw [mkB_size]; exact h)
      unfold World.cell?
      simp only [h1, h2]
theorem mkB_below {B : Nat} {a w : World} {g : Nat} (h : Below B a w) (hg : B ≤ g) (hs : B ≤ w.heap.size) : Below B a (mkB w g) := h.trans (below_of_only (mkB_grown w g) hg hs)
end
end Li
end Go.Proofs.YtiofkhjpknfkgaaDoor
/- The closed case: what every right program tells of eight bytes. -/
namespace Go.Proofs.YtiofkhjpknfkgaaDoor
namespace Bk
open Go.RowKit Ba Sm Ro
set_option linter.unusedVariables false
theorem mkB_lit (w : World) (E : TypeId) (vs : List Value) (l : List UInt8) (g : Nat) (hg : g = w.heap.size) (h : vs = bvs l) :
    ReadB (Li.mkB (w.alloc (.cells vs.toArray E)) g) (Li.mkB (w.alloc (.cells vs.toArray E)) g).heap.size (some ⟨g, 0, none⟩) l ∧ Below w.heap.size w (Li.mkB (w.alloc (.cells vs.toArray E)) g) := by
  subst hg
  refine ⟨?_, Li.mkB_below ((Below.refl _ _).alloc (Nat.le_refl _) _) (Nat.le_refl _) (by simp)⟩
  have h1 := ReadB.litN w E vs l w.heap.size rfl h
  rw [Li.mkB_size]
  intro hn
  obtain ⟨b, o, e, hb, hc⟩ := h1 hn
  exact ⟨b, o, e, by simpa using hb, fun k hk => by rw [Li.mkB_cell]; exact hc k hk⟩
def abc8 : List UInt8 := [97, 98, 99, 100, 101, 102, 103, 104]
theorem abc_blk : blk 3 abc8 0 = [97, 98, 99] ∧ blk 3 abc8 1 = [100, 101, 102] := by decide
theorem abc_sums : rsum [97, 98, 99] ≠ rsum [100, 101, 102] := by decide
theorem abc_sign : sign 3 abc8 = (signK 3 abc8 2, 0) := rfl
theorem abc_find : findB 3 (signK 3 abc8 2) [100, 101, 102] = (3, true) := by
  have e0 : findB 3 (signK 3 abc8 2) [100, 101, 102] = tellIx 3 (findIx (signK 3 abc8 2) (sgOf [100, 101, 102])) := if_pos (by rfl)
  rw [e0]
  have e : signK 3 abc8 2 = [sgOf [97, 98, 99], sgOf [100, 101, 102]] := by
    show [sgOf (blk 3 abc8 0), sgOf (blk 3 abc8 1)] = _
    rw [abc_blk.1, abc_blk.2]
  rw [e]
  have h : findIx [sgOf [97, 98, 99], sgOf [100, 101, 102]] (sgOf [100, 101, 102]) = some 1 := by
    unfold findIx
    show List.find? _ [0, 1] = some 1
    have h0 : (sg [sgOf [97, 98, 99], sgOf [100, 101, 102]] 0 == sgOf [100, 101, 102]) = false := by
      have : sgOf [97, 98, 99] ≠ sgOf [100, 101, 102] := fun h => abc_sums (congrArg Prod.fst h)
      exact beq_false_of_ne this
    have h1 : (sg [sgOf [97, 98, 99], sgOf [100, 101, 102]] 1 == sgOf [100, 101, 102]) = true := beq_self_eq_true (sgOf [100, 101, 102])
    rw [List.find?_cons_of_neg (by rw [h0]; decide)]
    exact List.find?_cons_of_pos h1
  rw [h]
  rfl
end Bk
end Go.Proofs.YtiofkhjpknfkgaaDoor
/- Each block of a file is found by its bytes, at its place, or at one ahead: the walk of the statement. -/
namespace Go.Proofs.YtiofkhjpknfkgaaDoor
namespace Bk
open Go.RowKit Ba Sm Ro
set_option linter.unusedVariables false
theorem findIx_at (L : List Sg) (s : Sg) (k : Nat) (hk : k < L.length) (hs : sg L k = s) : ∃ j, findIx L s = some j ∧ j ≤ k := by
  unfold findIx
  cases h : (List.range L.length).find? (fun i => sg L i == s) with
  | none =>
    rw [List.find?_eq_none] at h
    have := h k (by simpa using hk)
    rw [hs] at this
    simp at this
  | some j =>
    refine ⟨j, rfl, ?_⟩
    rw [List.find?_range_eq_some] at h
    rcases Nat.lt_or_ge k j with h2 | h2
    · have := h.2.2 k h2
      rw [hs] at this
      simp at this
    · exact h2
theorem sg_signK (z : Nat) (b : List UInt8) (m k : Nat) (hk : k < m) : sg (signK z b m) k = sgOf (blk z b k) := by
  unfold sg signK
  simp [List.getD, hk]
theorem whole_find (z : Nat) (b : List UInt8) (m k : Nat) (hk : k < m) (hm : m * z ≤ b.length) : ∃ j, j ≤ k ∧ findB z (signK z b m) (blk z b k) = (((j * z : Nat) : Int), true) := by
  obtain ⟨j, h1, h2⟩ := findIx_at (signK z b m) (sgOf (blk z b k)) k (by rw [signK_len]; exact hk) (sg_signK z b m k hk)
  refine ⟨j, h2, ?_⟩
  have hl : (blk z b k).length = z := blk_len z b k (Nat.le_trans (Nat.mul_le_mul_right z hk) hm)
  unfold findB
  rw [if_pos hl, h1]
  rfl
theorem whole_weak (z : Nat) (b : List UInt8) (m k : Nat) (hk : k < m) : hasWeak (signK z b m) (rsum (blk z b k)) = true := by
  unfold hasWeak
  rw [List.any_eq_true]
  refine ⟨k, by rw [signK_len]; simpa using hk, ?_⟩
  rw [sg_signK z b m k hk]
  exact beq_self_eq_true _
end Bk
end Go.Proofs.YtiofkhjpknfkgaaDoor
/- Laws of the search by a file's own sums. -/
namespace Go.Proofs.YtiofkhjpknfkgaaDoor
namespace Ms
open Tm Bk Ro Sm
set_option linter.unusedVariables false
theorem find_some {l : List Sg} {s : Sg} {k : Nat} (h : findIx l s = some k) : k < l.length ∧ sg l k = s := by
  unfold findIx at h
  rw [List.find?_range_eq_some] at h
  exact ⟨by simpa using h.2.1, by simpa using h.1⟩
theorem cut_blk (z : Nat) (b : List UInt8) (k : Nat) : cut b (k * z) (k * z + z) = blk z b k := by
  unfold cut blk
  rw [Nat.add_sub_cancel_left]
theorem finds_sign (z : Nat) (old : List UInt8) (hz : 1 ≤ z) : Finds sgOf old z (findB z (signK z old (old.length / z))) := by
  intro x hx h
  unfold findB at h ⊢
  rw [if_pos hx] at h ⊢
  cases hf : findIx (signK z old (old.length / z)) (sgOf x) with
  | none => rw [hf] at h; simp [tellIx] at h
  | some j =>
    obtain ⟨h1, h2⟩ := find_some hf
    rw [signK_len] at h1
    refine ⟨j, rfl, ?_, ?_⟩
    · have h3 := Nat.mul_le_mul_right z (show j + 1 ≤ old.length / z by omega)
      have h4 := Nat.div_mul_le_self old.length z
      rw [Nat.add_mul, Nat.one_mul] at h3
      omega
    · rw [cut_blk, ← sg_signK z old _ j h1]
      exact h2
theorem tiled_take {α : Type} {S : List UInt8 → α} {old b : List UInt8} {z : Nat} : ∀ (l : List O) (p q k : Nat), tiled S old b z l p q → 0 ≤ copied (l.take k) ∧ 0 ≤ literal (l.take k) ∧ copied (l.take k) + literal (l.take k) ≤ (q : Int) - (p : Int)
  | [], p, q, k, h => by
    have : p = q := h
    subst this
    simp [copied, literal]
  | o :: l, p, q, 0, h => by
    have h2 := tiled_take l _ q 0 h.2
    simp [copied, literal] at h2 ⊢
    omega
  | o :: l, p, q, k + 1, h => by
    obtain ⟨h1, h2⟩ := h
    have ih := tiled_take l _ q k h2
    have e : (o :: l).take (k + 1) = [o] ++ l.take k := rfl
    rw [e, copied_append, literal_append]
    have ho : copied [o] + literal [o] = (osize o : Int) ∧ 0 ≤ copied [o] ∧ 0 ≤ literal [o] := by
      unfold okAt at h1
      unfold copied literal osize
      cases hc : o.copy with
      | true =>
        rw [if_pos hc] at h1
        obtain ⟨N, A, e1, _⟩ := h1
        simp [hc, e1]
      | false => simp [hc]
    omega
theorem srch_none (F : List UInt8 → Int × Bool) (z : Nat) (b : List UInt8) (h : ∀ x, (F x).2 = false) : ∀ f out frm i, srch F z b f out frm i = (out, frm)
  | 0, out, frm, i => rfl
  | f + 1, out, frm, i => by
    unfold srch
    split
    · rw [h, if_neg (by simp)]
      exact srch_none F z b h f out frm (i + 1)
    · rfl
theorem search_none (F : List UInt8 → Int × Bool) (z : Nat) (b : List UInt8) (h : ∀ x, (F x).2 = false) : search F z b = whole b := by
  unfold search
  rw [srch_none F z b h]
  unfold fin
  split
  · rfl
  · simp
theorem findB_nil (z : Nat) (x : List UInt8) : (findB z [] x).2 = false := by
  unfold findB
  split <;> rfl
theorem hit_sign (z : Nat) (o : List UInt8) (hz : 1 ≤ z) (k : Nat) (hk : k * z + z ≤ o.length) : (findB z (signK z o (o.length / z)) (blk z o k)).2 = true := by
  obtain ⟨j, _, e⟩ := whole_find z o (o.length / z) k ((Nat.le_div_iff_mul_le (by omega)).2 (by rw [Nat.succ_mul]; exact hk)) (Nat.div_mul_le_self _ _)
  rw [e]
theorem self_sign (z : Nat) (b : List UInt8) (hz : 1 ≤ z) (hm : b.length % z = 0) (hb : b.length ≤ 2000) : copied (search (findB z (signK z b (b.length / z))) z b) = (b.length : Int) ∧ literal (search (findB z (signK z b (b.length / z))) z b) = 0 :=
  self _ z b hz (fun k hk => by rw [cut_blk]; exact hit_sign z b hz k hk) hm hb
theorem moved_sign (z : Nat) (a o : List UInt8) (hz : 1 ≤ z) (hb : (a ++ o).length ≤ 2000) : literal (search (findB z (signK z o (o.length / z))) z (a ++ o)) ≤ (a.length : Int) + z + z :=
  moved _ z a.length (a ++ o) hz (by simp) (fun k hk => by
    have e : cut (a ++ o) (a.length + k * z) (a.length + k * z + z) = blk z o k := by
      unfold cut blk
      rw [Nat.add_sub_cancel_left, List.drop_append, List.drop_eq_nil_of_le (show a.length ≤ a.length + k * z by omega), List.nil_append, Nat.add_sub_cancel_left]
    rw [e]
    exact hit_sign z o hz k (by rw [List.length_append] at hk; omega)) hb
theorem tells_sign (z : Nat) (old b : List UInt8) (hz : 1 ≤ z) (hb : b.length ≤ 2000) : tiled sgOf old b z (search (findB z (signK z old (old.length / z))) z b) 0 b.length := tells _ hz (finds_sign z old hz) hb
theorem bd_sign (z : Nat) (old b : List UInt8) (hz : 1 ≤ z) (hb : b.length ≤ 2000) (k : Nat) : (0 ≤ copied ((search (findB z (signK z old (old.length / z))) z b).take k) ∧ copied ((search (findB z (signK z old (old.length / z))) z b).take k) ≤ 4611686018427387904) ∧ (0 ≤ literal ((search (findB z (signK z old (old.length / z))) z b).take k) ∧ literal ((search (findB z (signK z old (old.length / z))) z b).take k) ≤ 4611686018427387904) := by
  have h := tiled_take _ 0 b.length k (tells_sign z old b hz hb)
  omega
end Ms
end Go.Proofs.YtiofkhjpknfkgaaDoor
/- Operations as a stream of bytes: plain words and laws. -/
namespace Go.Proofs.YtiofkhjpknfkgaaDoor
namespace Dm
open Tm
set_option linter.unusedVariables false
def makes (x : O) : Int := if x.copy then x.n else x.data.length
def may (x : O) (old : Int) : Bool := if x.copy then decide (x.data.length = 0) && decide (0 ≤ x.pos) && decide (1 ≤ x.n) && decide (x.pos ≤ old) && decide (x.n ≤ old - x.pos) else decide (0 < x.data.length) && decide (x.pos = 0) && decide (x.n = 0)
def room : List O → Int → Bool
  | [], _ => true
  | x :: t, r => if r - makes x < 0 then false else room t (r - makes x)
def check (l : List O) (old : Int) : Int := if 4096 < l.length then 5 else if l.all (may · old) = false then 4 else if room l 65536 = false then 5 else 0
def piece (old : List UInt8) (x : O) : List UInt8 := if x.copy then (old.drop x.pos.toNat).take x.n.toNat else x.data
def made (old : List UInt8) (l : List O) : List UInt8 := l.flatMap (piece old)
def apply (old : List UInt8) (l : List O) : List UInt8 × Int := if check l old.length ≠ 0 then ([], check l old.length) else (made old l, 0)
def putx (x : O) : List UInt8 := if x.copy then 1 :: (Fm.num x.pos ++ Fm.num x.n) else 0 :: Fm.text x.data
def put (l : List O) : List UInt8 := l.flatMap putx
def cutx (x : O) (n : Int) : O := if x.copy then ⟨true, x.pos + n, x.n - n, x.data⟩ else ⟨false, x.pos, x.n, x.data.drop n.toNat⟩
def from_ : List O → Int → List O
  | [], _ => []
  | x :: t, n => if n ≤ 0 then x :: from_ t n else if makes x ≤ n then from_ t (n - makes x) else cutx x n :: from_ t 0
def none_ : O := ⟨false, 0, 0, []⟩
/-- the operation that bytes begin with, how many it has (0: it is waited for), an error -/
def one (b : List UInt8) (old : Int) : O × Nat × Int :=
  match b with
  | [] => (none_, 0, 0)
  | c :: t =>
    if 1 < c.toNat then (none_, 0, 4) else
    if (Vm.shortest t).2.2 = 4 then (none_, 0, 4) else if (Vm.shortest t).2.2 ≠ 0 then (none_, 0, 0) else
    if c.toNat = 0 then
      if 65536 < (Vm.shortest t).1 then (none_, 0, 5) else if (Vm.shortest t).1 = 0 then (none_, 0, 4) else if (t.drop (Vm.shortest t).2.1).length < (Vm.shortest t).1 then (none_, 0, 0) else
      (lit ((t.drop (Vm.shortest t).2.1).take (Vm.shortest t).1), 1 + (Vm.shortest t).2.1 + (Vm.shortest t).1, 0)
    else
      if (Vm.shortest (t.drop (Vm.shortest t).2.1)).2.2 = 4 then (none_, 0, 4) else if (Vm.shortest (t.drop (Vm.shortest t).2.1)).2.2 ≠ 0 then (none_, 0, 0) else
      if may (cp ((Vm.shortest t).1 : Int) ((Vm.shortest (t.drop (Vm.shortest t).2.1)).1 : Int)) old then (cp ((Vm.shortest t).1 : Int) ((Vm.shortest (t.drop (Vm.shortest t).2.1)).1 : Int), 1 + (Vm.shortest t).2.1 + (Vm.shortest (t.drop (Vm.shortest t).2.1)).2.1, 0) else (none_, 0, 4)
def loop (old : Int) : Nat → List O → Int → List UInt8 → List O × Int × List UInt8 × Int
  | 0, out, m, b => (out, m, b, 0)
  | f + 1, out, m, b =>
    if b.length = 0 then (out, m, b, 0) else
    if (one b old).2.2 ≠ 0 then ([], m, b, (one b old).2.2) else
    if (one b old).2.1 = 0 then (out, m, b, 0) else
    if 65536 - m < makes (one b old).1 then ([], m, b, 5) else
    loop old f (out ++ [(one b old).1]) (m + makes (one b old).1) (b.drop (one b old).2.1)
structure D where
  made : Int
  b : List UInt8
  e : Int
def feed (old : Int) (d : D) (x : List UInt8) : D × List O × Int :=
  if d.e ≠ 0 then (d, [], d.e) else
  if (loop old ((d.b ++ x).length + 1) [] d.made (d.b ++ x)).2.2.2 ≠ 0 then (⟨d.made, d.b, (loop old ((d.b ++ x).length + 1) [] d.made (d.b ++ x)).2.2.2⟩, [], (loop old ((d.b ++ x).length + 1) [] d.made (d.b ++ x)).2.2.2) else
  (⟨(loop old ((d.b ++ x).length + 1) [] d.made (d.b ++ x)).2.1, (loop old ((d.b ++ x).length + 1) [] d.made (d.b ++ x)).2.2.1, 0⟩, (loop old ((d.b ++ x).length + 1) [] d.made (d.b ++ x)).1, 0)
/- operations that may be -/
theorem may_copy {x : O} {old : Int} (hc : x.copy = true) (h : may x old = true) : x.data = [] ∧ 0 ≤ x.pos ∧ 1 ≤ x.n ∧ x.pos + x.n ≤ old := by
  unfold may at h
  rw [if_pos hc] at h
  simp only [Bool.and_eq_true, decide_eq_true_eq] at h
  exact ⟨List.eq_nil_of_length_eq_zero h.1.1.1.1, h.1.1.1.2, h.1.1.2, by omega⟩
theorem may_lit {x : O} {old : Int} (hc : x.copy = false) (h : may x old = true) : 0 < x.data.length ∧ x.pos = 0 ∧ x.n = 0 := by
  unfold may at h
  rw [if_neg (by rw [hc]; simp)] at h
  simp only [Bool.and_eq_true, decide_eq_true_eq] at h
  exact ⟨h.1.1, h.1.2, h.2⟩
theorem may_makes {x : O} {old : Int} (h : may x old = true) : 1 ≤ makes x := by
  unfold makes
  split
  · rename_i hc; exact (may_copy hc h).2.2.1
  · rename_i hc; have := (may_lit (by simpa using hc) h).1; omega
theorem piece_len {x : O} {old : List UInt8} (h : may x old.length = true) : ((piece old x).length : Int) = makes x := by
  unfold piece makes
  split
  · rename_i hc
    have := may_copy hc h
    rw [List.length_take, List.length_drop]
    omega
  · rfl
theorem room_tail {x : O} {t : List O} {r : Int} (h : room (x :: t) r = true) : 0 ≤ r - makes x ∧ room t (r - makes x) = true := by
  unfold room at h
  split at h
  · cases h
  · rename_i h1; exact ⟨by omega, h⟩
theorem room_mono : ∀ (l : List O) (r s : Int), r ≤ s → room l r = true → room l s = true
  | [], _, _, _, _ => rfl
  | x :: t, r, s, h, hr => by
    obtain ⟨h1, h2⟩ := room_tail hr
    unfold room
    rw [if_neg (by omega)]
    exact room_mono t _ _ (by omega) h2
theorem may_cut {x : O} {old : Int} {n : Int} (h : may x old = true) (h0 : 0 < n) (h1 : n < makes x) : may (cutx x n) old = true ∧ makes (cutx x n) = makes x - n := by
  unfold cutx makes at *
  by_cases hc : x.copy = true
  · rw [if_pos hc] at h1 ⊢
    obtain ⟨c1, c2, c3, c4⟩ := may_copy hc h
    refine ⟨?_, by simp [hc]⟩
    unfold may
    simp [c1]
    omega
  · have hc2 : x.copy = false := by simpa using hc
    rw [if_neg hc] at h1 ⊢
    obtain ⟨c1, c2, c3⟩ := may_lit hc2 h
    refine ⟨?_, ?_⟩
    · unfold may
      simp [c2, c3]
      omega
    · simp [hc2]
      omega
theorem piece_cut {x : O} {old : List UInt8} {n : Int} (h : may x old.length = true) (h0 : 0 < n) (h1 : n < makes x) : piece old (cutx x n) = (piece old x).drop n.toNat := by
  unfold cutx piece makes at *
  by_cases hc : x.copy = true
  · rw [if_pos hc] at h1
    obtain ⟨c1, c2, c3, c4⟩ := may_copy hc h
    simp only [hc, if_true]
    rw [List.drop_take, List.drop_drop]
    congr 1
    · omega
    · congr 1; omega
  · simp only [hc, if_false]
    simp
theorem from_ok (old : List UInt8) : ∀ (l : List O) (n r : Int), (∀ x ∈ l, may x old.length = true) → room l r = true →
    (∀ x ∈ from_ l n, may x old.length = true) ∧ room (from_ l n) r = true ∧ (from_ l n).length ≤ l.length ∧ made old (from_ l n) = (made old l).drop n.toNat
  | [], n, r, h, hr => ⟨by simp [from_], by simp [from_, room], Nat.le_refl _, by simp [from_, made]⟩
  | x :: t, n, r, h, hr => by
    have hx := h x (by simp)
    have ht : ∀ y ∈ t, may y old.length = true := fun y hy => h y (by simp [hy])
    obtain ⟨hr1, hr2⟩ := room_tail hr
    have hm := may_makes hx
    have hp := piece_len hx
    unfold from_
    split
    · rename_i hn
      obtain ⟨a1, a2, a3, a4⟩ := from_ok old t n (r - makes x) ht hr2
      refine ⟨fun y hy => ?_, ?_, by simpa using a3, ?_⟩
      · rcases List.mem_cons.1 hy with rfl | hy
        · exact hx
        · exact a1 y hy
      · unfold room; rw [if_neg (by omega)]; exact a2
      · rw [show n.toNat = 0 by omega, List.drop_zero] at a4 ⊢
        simp only [made, List.flatMap_cons] at a4 ⊢
        rw [a4]
    · rename_i hn
      split
      · rename_i hk
        obtain ⟨a1, a2, a3, a4⟩ := from_ok old t (n - makes x) (r - makes x) ht hr2
        refine ⟨a1, room_mono _ _ _ (by omega) a2, by simp only [List.length_cons]; omega, ?_⟩
        rw [a4]
        simp only [made, List.flatMap_cons]
        rw [List.drop_append]
        rw [List.drop_of_length_le (by omega : (piece old x).length ≤ n.toNat), List.nil_append]
        congr 1
        omega
      · rename_i hk
        obtain ⟨c1, c2⟩ := may_cut hx (by omega : 0 < n) (by omega)
        have c3 := piece_cut hx (by omega : 0 < n) (by omega)
        obtain ⟨a1, a2, a3, a4⟩ := from_ok old t 0 (r - makes x) ht hr2
        refine ⟨fun y hy => ?_, ?_, by simpa using a3, ?_⟩
        · rcases List.mem_cons.1 hy with rfl | hy
          · exact c1
          · exact a1 y hy
        · unfold room; rw [if_neg (by omega)]; exact room_mono _ _ _ (by omega) a2
        · have e0 : (0 : Int).toNat = 0 := rfl
          rw [e0, List.drop_zero] at a4
          simp only [made, List.flatMap_cons] at a4 ⊢
          rw [a4, c3, List.drop_append_of_le_length (by omega)]
/-- what is left of operations makes what is left -/
theorem from_law (old : List UInt8) (l : List O) (n : Int) (h : check l old.length = 0) : apply old (from_ l n) = ((made old l).drop n.toNat, 0) := by
  unfold check at h
  split at h
  · omega
  · rename_i h1
    split at h
    · omega
    · rename_i h2
      split at h
      · omega
      · rename_i h3
        have h2' : l.all (may · old.length) = true := by simpa using h2
        obtain ⟨a1, a2, a3, a4⟩ := from_ok old l n 65536 (fun x hx => List.all_eq_true.1 h2' x hx) (by simpa using h3)
        have hc : check (from_ l n) old.length = 0 := by
          unfold check
          rw [if_neg (by omega), if_neg (by rw [List.all_eq_true.2 (fun x hx => a1 x hx)]; simp), if_neg (by rw [a2]; simp)]
        unfold apply
        rw [if_neg (by rw [hc]; simp), a4]
end Dm
end Go.Proofs.YtiofkhjpknfkgaaDoor
/- Operations as a stream of bytes: what is put is fed back, however it is cut. -/
namespace Go.Proofs.YtiofkhjpknfkgaaDoor
namespace Dm
open Tm
set_option linter.unusedVariables false
set_option linter.unusedSimpArgs false
theorem copy_eq {x : O} {old : Int} (hc : x.copy = true) (h : may x old = true) : ∃ p m : Nat, x = cp (p : Int) (m : Int) ∧ (p : Int) + m ≤ old := by
  obtain ⟨c1, c2, c3, c4⟩ := may_copy hc h
  refine ⟨x.pos.toNat, x.n.toNat, ?_, by omega⟩
  rw [Int.toNat_of_nonneg c2, Int.toNat_of_nonneg (by omega)]
  cases x
  simp_all [cp]
theorem lit_eq {x : O} {old : Int} (hc : x.copy = false) (h : may x old = true) : x = lit x.data := by
  obtain ⟨c1, c2, c3⟩ := may_lit hc h
  cases x
  simp_all [lit]
theorem one_copy (p m : Nat) (old : Int) (ho : old < 4611686018427387904) (hp : (p : Int) + m ≤ old) (h : may (cp p m) old = true) (t : List UInt8) :
    one (1 :: (Fm.num (p : Int) ++ (Fm.num (m : Int) ++ t))) old = (cp p m, 1 + (Fm.num (p : Int)).length + (Fm.num (m : Int)).length, 0) := by
  have h1 := Fm.shortest_num p (by omega) (Fm.num (m : Int) ++ t)
  have h2 := Fm.shortest_num m (by omega) t
  unfold one
  simp only [h1, List.drop_left, h2]
  simp [h]
theorem one_lit (d : List UInt8) (old : Int) (h0 : 0 < d.length) (h1 : d.length ≤ 65536) (t : List UInt8) :
    one (0 :: (Fm.num (d.length : Int) ++ (d ++ t))) old = (lit d, 1 + (Fm.num (d.length : Int)).length + d.length, 0) := by
  have h2 := Fm.shortest_num d.length (by omega) (d ++ t)
  unfold one
  simp only [h2, List.drop_left, List.take_left]
  rw [if_neg (by decide), if_neg (by decide), if_neg (by simp), if_pos (by decide), if_neg (by omega), if_neg (by omega), if_neg (by simp)]
theorem one_put (x : O) (old : Int) (ho : old < 4611686018427387904) (h : may x old = true) (hm : makes x ≤ 65536) (t : List UInt8) : one (putx x ++ t) old = (x, (putx x).length, 0) := by
  by_cases hc : x.copy = true
  · obtain ⟨p, m, hx, hp⟩ := copy_eq hc h
    subst hx
    have := one_copy p m old ho hp h t
    have e : putx (cp p m) = 1 :: (Fm.num (p : Int) ++ Fm.num (m : Int)) := rfl
    rw [e, List.cons_append, List.append_assoc, this]
    simp only [List.length_cons, List.length_append, Prod.mk.injEq, true_and, and_true]
    omega
  · have hc2 : x.copy = false := by simpa using hc
    have hx := lit_eq hc2 h
    obtain ⟨c1, _, _⟩ := may_lit hc2 h
    unfold makes at hm
    rw [if_neg hc] at hm
    generalize x.data = d at *
    subst hx
    have := one_lit d old c1 (by omega) t
    have e : putx (lit d) = 0 :: (Fm.num (d.length : Int) ++ d) := rfl
    rw [e, List.cons_append, List.append_assoc, this]
    simp only [List.length_cons, List.length_append, Prod.mk.injEq, true_and, and_true]
    omega
theorem one_cut (x : O) (old : Int) (ho : old < 4611686018427387904) (h : may x old = true) (hm : makes x ≤ 65536) (k : Nat) (hk : k < (putx x).length) : (one ((putx x).take k) old).2 = (0, 0) := by
  cases k with
  | zero => rfl
  | succ k =>
  by_cases hc : x.copy = true
  · obtain ⟨p, m, hx, hp⟩ := copy_eq hc h
    subst hx
    have e : putx (cp p m) = 1 :: (Fm.num (p : Int) ++ Fm.num (m : Int)) := rfl
    rw [e] at hk ⊢
    rw [List.take_succ_cons]
    simp only [List.length_cons, List.length_append] at hk
    rw [List.take_append]
    by_cases h1 : k < (Fm.num (p : Int)).length
    · rw [show k - (Fm.num (p : Int)).length = 0 by omega, List.take_zero, List.append_nil]
      have h2 := Fm.shortest_cut p (by omega) k h1
      unfold one
      simp [h2]
    · rw [List.take_of_length_le (by omega)]
      have h2 := Fm.shortest_num p (by omega) ((Fm.num (m : Int)).take (k - (Fm.num (p : Int)).length))
      have h3 := Fm.shortest_cut m (by omega) (k - (Fm.num (p : Int)).length) (by omega)
      unfold one
      simp only [h2, List.drop_left, h3]
      simp
  · have hc2 : x.copy = false := by simpa using hc
    have hx := lit_eq hc2 h
    obtain ⟨c1, _, _⟩ := may_lit hc2 h
    unfold makes at hm
    rw [if_neg hc] at hm
    generalize x.data = d at *
    subst hx
    have e : putx (lit d) = 0 :: (Fm.num (d.length : Int) ++ d) := rfl
    rw [e] at hk ⊢
    rw [List.take_succ_cons]
    simp only [List.length_cons, List.length_append] at hk
    rw [List.take_append]
    by_cases h1 : k < (Fm.num (d.length : Int)).length
    · rw [show k - (Fm.num (d.length : Int)).length = 0 by omega, List.take_zero, List.append_nil]
      have h2 := Fm.shortest_cut d.length (by omega) k h1
      unfold one
      simp [h2]
    · rw [List.take_of_length_le (by omega)]
      have h2 := Fm.shortest_num d.length (by omega) (d.take (k - (Fm.num (d.length : Int)).length))
      unfold one
      simp only [h2, List.drop_left]
      rw [if_neg (by decide), if_neg (by decide), if_neg (by simp), if_pos (by decide), if_neg (by omega), if_neg (by omega), if_pos (by rw [List.length_take]; omega)]
def total (l : List O) : Int := (l.map makes).foldl (· + ·) 0
theorem total_cons (x : O) (l : List O) : total (x :: l) = makes x + total l := by
  unfold total
  rw [List.map_cons, List.foldl_cons, foldl_add]
  omega
theorem total_append (l r : List O) : total (l ++ r) = total l + total r := by unfold total; rw [List.map_append, sum_append]
theorem putx_pos (x : O) : 1 ≤ (putx x).length := by unfold putx; split <;> simp
theorem put_cons (x : O) (l : List O) : put (x :: l) = putx x ++ put l := rfl
theorem put_append (l r : List O) : put (l ++ r) = put l ++ put r := by unfold put; rw [List.flatMap_append]
theorem total_nonneg (old : Int) (l : List O) (h : ∀ x ∈ l, may x old = true) : 0 ≤ total l := by
  induction l with
  | nil => simp [total]
  | cons x l ih =>
    have := may_makes (h x (by simp))
    have := ih (fun y hy => h y (by simp [hy]))
    rw [total_cons]; omega
theorem loop_put (old : Int) (ho : old < 4611686018427387904) : ∀ (l : List O) (f : Nat) (out : List O) (m : Int) (r : List UInt8), (∀ x ∈ l, may x old = true) → 0 ≤ m → m + total l ≤ 65536 → (one r old).2 = (0, 0) → (put l ++ r).length < f →
    loop old f out m (put l ++ r) = (out ++ l, m + total l, r, 0)
  | [], f, out, m, r, h, hm, ht, hr, hf => by
    have e : put [] ++ r = r := rfl
    rw [e] at hf ⊢
    cases f with
    | zero => omega
    | succ f =>
      unfold loop
      have h1 : (one r old).2.2 = 0 := by rw [hr]
      have h2 : (one r old).2.1 = 0 := by rw [hr]
      have h3 : total [] = 0 := rfl
      rw [List.append_nil, h3, Int.add_zero]
      simp [h1, h2]
  | x :: l, f, out, m, r, h, hm, ht, hr, hf => by
    have hx := h x (by simp)
    have hl : ∀ y ∈ l, may y old = true := fun y hy => h y (by simp [hy])
    have hn := total_nonneg old l hl
    have hmk := may_makes hx
    rw [total_cons] at ht
    have h1 := one_put x old ho hx (by omega) (put l ++ r)
    have hp := putx_pos x
    rw [put_cons, List.append_assoc] at hf ⊢
    rw [List.length_append] at hf
    cases f with
    | zero => omega
    | succ f =>
      unfold loop
      simp only [h1]
      rw [if_neg (by rw [List.length_append]; omega), if_neg (by simp), if_neg (by omega), if_neg (by omega), List.drop_left]
      rw [loop_put old ho l f (out ++ [x]) (m + makes x) r hl (by omega) (by omega) hr (by omega), total_cons, List.append_assoc]
      simp [Int.add_assoc]
/-- any beginning of the bytes is whole operations and a beginning of the next one -/
theorem put_split : ∀ (l : List O) (k : Nat), ∃ l1 l2 r, l = l1 ++ l2 ∧ (put l).take k = put l1 ++ r ∧ (l2 = [] → r = []) ∧ ∀ y t, l2 = y :: t → r.length < (putx y).length ∧ r = (putx y).take r.length
  | [], k => ⟨[], [], [], rfl, by simp [put], fun _ => rfl, fun y t h => by cases h⟩
  | x :: l, k => by
    by_cases hk : k < (putx x).length
    · refine ⟨[], x :: l, (putx x).take k, rfl, ?_, (fun h => by cases h), fun y t h => ?_⟩
      · rw [put_cons, List.take_append_of_le_length (by omega)]; rfl
      · injection h with h1 h2
        subst h1
        rw [List.length_take]
        refine ⟨by omega, by rw [Nat.min_eq_left (by omega)]⟩
    · obtain ⟨l1, l2, r, h1, h2, h3, h4⟩ := put_split l (k - (putx x).length)
      refine ⟨x :: l1, l2, r, by rw [h1]; rfl, ?_, h3, h4⟩
      rw [put_cons, List.take_append, List.take_of_length_le (by omega), h2, put_cons, List.append_assoc]
theorem one_of_split {l2 : List O} {r : List UInt8} {old : Int} (ho : old < 4611686018427387904) (hm : ∀ x ∈ l2, may x old = true ∧ makes x ≤ 65536) (h3 : l2 = [] → r = []) (h4 : ∀ y t, l2 = y :: t → r.length < (putx y).length ∧ r = (putx y).take r.length) : (one r old).2 = (0, 0) := by
  cases l2 with
  | nil => rw [h3 rfl]; rfl
  | cons y t =>
    obtain ⟨a, b⟩ := h4 y t rfl
    have := hm y (by simp)
    rw [b]
    exact one_cut y old ho this.1 this.2 _ a
/-- a piece more: what was left of the bytes put, and a piece of what follows -/
theorem feed_put (old : Int) (ho : old < 4611686018427387904) (l2 : List O) (r c : List UInt8) (m : Int) (j : Nat) (hm : ∀ x ∈ l2, may x old = true ∧ makes x ≤ 65536) (h0 : 0 ≤ m) (ht : m + total l2 ≤ 65536) (hc : r ++ c = (put l2).take j) :
    ∃ l3 l4 r2, l2 = l3 ++ l4 ∧ feed old ⟨m, r, 0⟩ c = (⟨m + total l3, r2, 0⟩, l3, 0) ∧ r ++ c = put l3 ++ r2 ∧ (l4 = [] → r2 = []) ∧ ∀ y t, l4 = y :: t → r2.length < (putx y).length ∧ r2 = (putx y).take r2.length := by
  obtain ⟨l3, l4, r2, h1, h2, h3, h4⟩ := put_split l2 j
  have hr := one_of_split ho (fun x hx => hm x (by rw [h1]; simp [hx])) h3 h4
  have hn := total_nonneg old l4 (fun x hx => (hm x (by rw [h1]; simp [hx])).1)
  rw [h1, total_append] at ht
  have hl := loop_put old ho l3 ((put l3 ++ r2).length + 1) [] m r2 (fun x hx => (hm x (by rw [h1]; simp [hx])).1) h0 (by omega) hr (by omega)
  rw [List.nil_append] at hl
  refine ⟨l3, l4, r2, h1, ?_, hc.trans h2, h3, h4⟩
  unfold feed
  simp only [hc.trans h2, hl]
  simp
end Dm
end Go.Proofs.YtiofkhjpknfkgaaDoor
/- Operations: whether they are the same, and whether they are few and small: plain words. -/
namespace Go.Proofs.YtiofkhjpknfkgaaDoor
namespace Tm
set_option linter.unusedVariables false
def sameO (a b : O) : Bool := (a.copy == b.copy) && (decide (a.pos = b.pos) && (decide (a.n = b.n) && (a.data == b.data)))
def sameK : List O → List O → Bool
  | x :: s, y :: t => if sameO x y then sameK s t else false
  | _, _ => true
def same (a b : List O) : Bool := if a.length = b.length then sameK a b else false
theorem sameO_refl (a : O) : sameO a a = true := by simp [sameO]
theorem sameK_refl : ∀ l : List O, sameK l l = true
  | [] => rfl
  | x :: l => by unfold sameK; rw [if_pos (sameO_refl x)]; exact sameK_refl l
theorem same_refl (l : List O) : same l l = true := by unfold same; rw [if_pos rfl]; exact sameK_refl l
theorem sameK_nil (l m : List O) (k : Nat) (h : l.length ≤ k) : sameK (l.drop k) (m.drop k) = true := by rw [List.drop_of_length_le h]; rfl
def at_ (l : List O) (k : Nat) : O := l.getD k ⟨false, 0, 0, []⟩
theorem drop_at (l : List O) (k : Nat) (h : k < l.length) : l.drop k = at_ l k :: l.drop (k + 1) := by
  rw [List.drop_eq_getElem_cons h]
  simp [at_, List.getD, h]
theorem sameK_step (l m : List O) (k : Nat) (h : k < l.length) (h2 : k < m.length) : sameK (l.drop k) (m.drop k) = if sameO (at_ l k) (at_ m k) then sameK (l.drop (k + 1)) (m.drop (k + 1)) else false := by
  rw [drop_at l k h, drop_at m k h2]
  rfl
def lightK (size : Nat) : List O → Nat → Bool
  | [], _ => true
  | x :: t, n => if size < n + min x.data.length (size + 1) then false else if 1099511627776 < x.n then false else if x.n < -1099511627776 then false else lightK size t (n + min x.data.length (size + 1))
def light (l : List O) (most size : Nat) : Bool := if most < l.length then false else lightK size l 0
def sumD : List O → Nat
  | [] => 0
  | x :: t => x.data.length + sumD t
theorem lightK_sum (size : Nat) : ∀ (l : List O) (n : Nat), n ≤ size → lightK size l n = true → n + sumD l ≤ size ∧ ∀ x ∈ l, -1099511627776 ≤ x.n ∧ x.n ≤ 1099511627776 ∧ x.data.length ≤ size
  | [], n, h0, h => ⟨by simpa [sumD] using h0, by simp⟩
  | x :: t, n, h0, h => by
    unfold lightK at h
    split at h
    · cases h
    rename_i h1
    split at h
    · cases h
    rename_i h2
    split at h
    · cases h
    rename_i h3
    obtain ⟨a1, a2⟩ := lightK_sum size t _ (by omega) h
    refine ⟨by unfold sumD; omega, fun y hy => ?_⟩
    rcases List.mem_cons.1 hy with rfl | hy
    · exact ⟨by omega, by omega, by omega⟩
    · exact a2 y hy
theorem light_facts {l : List O} {most size : Nat} (h : light l most size = true) : l.length ≤ most ∧ sumD l ≤ size ∧ ∀ x ∈ l, -1099511627776 ≤ x.n ∧ x.n ≤ 1099511627776 ∧ x.data.length ≤ size := by
  unfold light at h
  split at h
  · cases h
  · have := lightK_sum size l 0 (Nat.zero_le _) h
    exact ⟨by omega, by omega, this.2⟩
theorem lightK_step (size : Nat) (l : List O) (k n : Nat) (h : k < l.length) : lightK size (l.drop k) n =
    if size < n + min (at_ l k).data.length (size + 1) then false else if 1099511627776 < (at_ l k).n then false else if (at_ l k).n < -1099511627776 then false else lightK size (l.drop (k + 1)) (n + min (at_ l k).data.length (size + 1)) := by
  rw [drop_at l k h]
  rfl
theorem lightK_end (size : Nat) (l : List O) (k n : Nat) (h : l.length ≤ k) : lightK size (l.drop k) n = true := by rw [List.drop_of_length_le h]; rfl
theorem sumD_take (l : List O) (k : Nat) : sumD (l.take k) ≤ sumD l := by
  induction l generalizing k with
  | nil => simp [sumD]
  | cons x l ih =>
    cases k with
    | zero => simp [sumD]
    | succ k => have := ih k; simp only [List.take_succ_cons, sumD]; omega
theorem mem_at (l : List O) (k : Nat) (h : k < l.length) : at_ l k ∈ l := by
  unfold at_
  rw [List.getD_eq_getElem?_getD, List.getElem?_eq_getElem h]
  exact List.getElem_mem h
end Tm
end Go.Proofs.YtiofkhjpknfkgaaDoor
/- Operations that are put and fed: plain words for the walk. -/
namespace Go.Proofs.YtiofkhjpknfkgaaDoor
namespace Dm
open Tm
set_option linter.unusedVariables false
theorem cl_total (old : Int) : ∀ (l : List O), (∀ x ∈ l, may x old = true) → copied l + literal l = total l ∧ 0 ≤ copied l ∧ 0 ≤ literal l
  | [], _ => by simp [copied, literal, total]
  | x :: t, h => by
    obtain ⟨h1, h2, h3⟩ := cl_total old t (fun y hy => h y (by simp [hy]))
    have hx := h x (by simp)
    have hm := may_makes hx
    have ec : copied (x :: t) = copied [x] + copied t := copied_append [x] t
    have el : literal (x :: t) = literal [x] + literal t := literal_append [x] t
    rw [ec, el, total_cons]
    unfold makes at hm ⊢
    by_cases hc : x.copy = true
    · have e1 : copied [x] = x.n := by simp [copied, hc]
      have e2 : literal [x] = 0 := by simp [literal, hc]
      rw [if_pos hc] at hm ⊢
      omega
    · have hc2 : x.copy = false := by simpa using hc
      have e1 : copied [x] = 0 := by simp [copied, hc2]
      have e2 : literal [x] = x.data.length := by simp [literal, hc2]
      rw [if_neg hc] at hm ⊢
      omega
theorem room_total : ∀ (l : List O) (r : Int), 0 ≤ r → room l r = true → total l ≤ r
  | [], r, h0, _ => by simpa [total] using h0
  | x :: t, r, h0, h => by
    obtain ⟨h1, h2⟩ := room_tail h
    have := room_total t _ h1 h2
    rw [total_cons]
    omega
/-- the state between two pieces -/
def Mid (l l1 l2 : List O) (r b : List UInt8) : Prop := l = l1 ++ l2 ∧ r ++ b = put l2 ∧ (l2 = [] → r = []) ∧ ∀ y t, l2 = y :: t → r.length < (putx y).length
theorem mid_start (l : List O) : Mid l [] l [] (put l) := ⟨rfl, rfl, fun _ => rfl, fun y t _ => by have := putx_pos y; simp; omega⟩
theorem mid_end {l l1 l2 : List O} {r : List UInt8} (h : Mid l l1 l2 r []) : l1 = l ∧ r = [] := by
  obtain ⟨h1, h2, h3, h4⟩ := h
  cases l2 with
  | nil => exact ⟨by rw [h1]; simp, h3 rfl⟩
  | cons y t =>
    exfalso
    have h5 := h4 y t rfl
    rw [List.append_nil, put_cons] at h2
    have := congrArg List.length h2
    rw [List.length_append] at this
    omega
theorem mid_step {old : Int} (ho : old < 4611686018427387904) {l l1 l2 : List O} {r b : List UInt8} (h : Mid l l1 l2 r b) (hm : ∀ x ∈ l, may x old = true ∧ makes x ≤ 65536) (ht : total l ≤ 65536) (n : Nat) :
    ∃ l3 l4 r2, feed old ⟨total l1, r, 0⟩ (b.take n) = (⟨total (l1 ++ l3), r2, 0⟩, l3, 0) ∧ Mid l (l1 ++ l3) l4 r2 (b.drop n) := by
  obtain ⟨h1, h2, h3, h4⟩ := h
  have hm2 : ∀ x ∈ l2, may x old = true ∧ makes x ≤ 65536 := fun x hx => hm x (by rw [h1]; simp [hx])
  have hn1 := total_nonneg old l1 (fun x hx => (hm x (by rw [h1]; simp [hx])).1)
  have ht2 : total l1 + total l2 ≤ 65536 := by rw [h1, total_append] at ht; exact ht
  have hc : r ++ b.take n = (put l2).take (r.length + n) := by
    rw [← h2, List.take_append, List.take_of_length_le (show r.length ≤ r.length + n by omega)]
    simp
  obtain ⟨l3, l4, r2, g1, g2, g3, g4, g5⟩ := feed_put old ho l2 r (b.take n) (total l1) (r.length + n) hm2 hn1 ht2 hc
  refine ⟨l3, l4, r2, by rw [total_append]; exact g2, by rw [h1, g1, List.append_assoc], ?_, g4, fun y t e => (g5 y t e).1⟩
  have e1 : (r ++ b.take n) ++ b.drop n = put l3 ++ put l4 := by rw [List.append_assoc, List.take_append_drop, h2, g1, put_append]
  rw [g3, List.append_assoc] at e1
  exact List.append_cancel_left e1
end Dm
end Go.Proofs.YtiofkhjpknfkgaaDoor

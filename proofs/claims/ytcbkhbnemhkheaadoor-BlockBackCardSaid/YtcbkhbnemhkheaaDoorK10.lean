/- Sums that are put are read as they were; bytes that are read are those that are put: the walk of the statement. -/
import Derived.Test.YtcbkhbnemhkheaaDoorK01
import Derived.Test.YtcbkhbnemhkheaaDoorK02
import Derived.Test.YtcbkhbnemhkheaaDoorK03
import Derived.Test.YtcbkhbnemhkheaaDoorK04
import Derived.Test.YtcbkhbnemhkheaaDoorK05
import Derived.Test.YtcbkhbnemhkheaaDoorK06
import Derived.Test.YtcbkhbnemhkheaaDoorK07
import Derived.Test.YtcbkhbnemhkheaaDoorK08
import Derived.Test.YtcbkhbnemhkheaaDoorK09
import Derived.ProofKit
import Derived.OpenShut
import Derived.ShutString
import Derived.ChangeOld
import Derived.SizedLaws
import Derived.ChangeSlices
import Derived.Deep.Slices
import Derived.Test.YtcbkhbnemhkheaaDoorRows
import Derived.LaidMore
import Derived.Stop.Joined
import Derived.Lib.LaidTab
namespace Go.Proofs.YtcbkhbnemhkheaaDoor
namespace Bk
open Go.RowKit Ba Sm Ro
set_option linter.unusedVariables false
theorem get_range (raw : List UInt8) : (0 ≤ (get raw).1 ∧ (get raw).1 ≤ 4096) ∧ (0 ≤ (get raw).2.1 ∧ (get raw).2.1 ≤ 65536) ∧ (get raw).2.2.1.length ≤ 4096 := by
  by_cases h : (get raw).2.2.2 = 0
  · have hp := put_get raw h
    have hp2 := put_ok _ _ _ (by rw [hp])
    obtain ⟨c1, c2, c3, c4⟩ := (check_ok _ _ _).1 hp2.1
    exact ⟨by omega, by omega, c4⟩
  · rw [get_none raw h]
    simp [none4]
theorem put_len2 (size n : Int) (l : List Sg) (h : check size n l.length = 0) : 2 ≤ (Fm.num size ++ (Fm.num n ++ sgsB l)).length ∧ (Fm.num size ++ (Fm.num n ++ sgsB l)).length ≤ 16 + (sgsB l).length := by
  obtain ⟨c1, c2, c3, c4⟩ := (check_ok _ _ _).1 h
  obtain ⟨s, rfl⟩ : ∃ s : Nat, size = (s : Int) := ⟨size.toNat, by omega⟩
  obtain ⟨m, rfl⟩ : ∃ m : Nat, n = (m : Int) := ⟨n.toNat, by omega⟩
  have h1 := Fm.num_pos s (by omega)
  have h2 := Fm.num_pos m (by omega)
  have h3 := Fm.num_len (s : Int)
  have h4 := Fm.num_len (m : Int)
  simp only [List.length_append]
  omega
theorem strof_bk (W : World) (B : Nat) (A : Option Addr) (c : Nat) (l : List UInt8) (h : ReadB W B A l) : (convert 22 9 (.slice A l.length c)).run Tryd.prog W = .ok (.string (S l)) W :=
  run_strof W 22 5 Tryd.underlying22 Tryd.underlying5 A c B l h 9 Tryd.underlying9
theorem beq_str (l : List UInt8) : ((S l).toList == (S l).toList) = true := beq_self_eq_true _
set_option maxRecDepth 100000 in
set_option maxHeartbeats 8000000 in
theorem blockBack_calls (size n : Int) (l : List Sg) (L : Option Addr) (d : Nat) (raw : List UInt8) (A : Option Addr) (c : Nat) (hs : -9223372036854775808 ≤ size ∧ size ≤ 9223372036854775807) (hn : -9223372036854775808 ≤ n ∧ n ≤ 9223372036854775807)
    (hld : l.length ≤ d) (hdm : d ≤ 9223372036854775807) (hrc : raw.length ≤ c) (hcm : c ≤ 9223372036854775807) (w : World) (htab : Tab w) (hL : ReadRow sgv 33 w w.heap.size L l) (hwf : ∀ s ∈ l, WfS s) (hr : ReadB w w.heap.size A raw) :
    Calls Tryd.prog 8 #[.agg #[.int .i64 size, .int .i64 n, .slice L l.length d], .slice A raw.length c] w fun e w' => e = .returned (.bool true) ∧ Below w.heap.size w w' := by
  have Hw := Lib.hid awake_calls
  have hA := (Below.refl w.heap.size w).alloc (Nat.le_refl _) (.cells #[.int .i64 size, .int .i64 n, .slice L l.length d] 36)
  have HA := Lib.hid hA
  have Htab := Lib.hid htab
  have HL := Lib.hid hL
  have Hr := Lib.hid hr
  have Hwf := Lib.hid hwf
  have hbx : Blk (w.alloc (.cells #[.int .i64 size, .int .i64 n, .slice L l.length d] 36)) w.heap.size 36 #[.int .i64 size, .int .i64 n, .slice L l.length d] := heap_alloc_new w _
  have HBx := Lib.hid hbx
  clear hA htab hL hr hwf hbx
  by_cases h1 : 200 < l.length
  · have g1 : decide (200 < (l.length : Int)) = true := decide_eq_true (by omega)
    go_enter Tryd.func8, Tryd.ntmps8
    go_wp2_with (go_at_call 9; refine (Hw.out _ (Htab.out.below HA.out)).mono ?_; rintro e w5 ⟨rfl, hb5⟩)
    go_ret
    exact ⟨rfl, HA.out.trans (hb5.mono HA.out.size)⟩
  have g1 : decide (200 < (l.length : Int)) = false := decide_eq_false (by omega)
  by_cases h2 : 8000 < raw.length
  · have g2 : decide (8000 < (raw.length : Int)) = true := decide_eq_true (by omega)
    go_enter Tryd.func8, Tryd.ntmps8
    go_wp2_with (go_at_call 9; refine (Hw.out _ (Htab.out.below HA.out)).mono ?_; rintro e w5 ⟨rfl, hb5⟩)
    go_ret
    exact ⟨rfl, HA.out.trans (hb5.mono HA.out.size)⟩
  have g2 : decide (8000 < (raw.length : Int)) = false := decide_eq_false (by omega)
  have hput := fun w' h => put_calls size n l L d hs hn (by omega) w' h
  obtain ⟨r1, r2, r3, r4, hgr⟩ : ∃ r1 r2 r3 r4, get raw = (r1, r2, r3, r4) := ⟨_, _, _, _, rfl⟩
  have hrg := get_range raw
  have hpg := put_get raw
  have hgn := get_none raw
  have hgt := fun w' h => get_calls raw A c w' h hrc hcm
  rw [hgr] at hrg hpg hgn
  simp only [hgr] at hgt
  simp only [none4] at hrg hpg hgn
  have Hpg := Lib.hid hpg
  have Hgn := Lib.hid hgn
  have Hgt := Lib.hid hgt
  have hcx := HBx.out.cell 0
  have hcy := HBx.out.cell 1
  have hcz := HBx.out.cell 2
  clear hpg hgn hgt
  by_cases hq : check size n l.length = 0
  · obtain ⟨P, hP⟩ : ∃ P, P = Fm.num size ++ (Fm.num n ++ sgsB l) := ⟨_, rfl⟩
    have hp : put size n l = (P, 0) := by unfold put; rw [if_neg (by simpa using hq), hP, List.append_assoc]
    simp only [hp] at hput
    have hgp := get_put size n l Hwf.out hq
    have hpl := put_len2 size n l hq
    rw [← hP] at hgp hpl
    have hsl := sgsB_len l (fun s hs => (Hwf.out s hs).2)
    obtain ⟨hg1, hg2, hg3⟩ := hgp
    have hPb : P.length ≤ 16 + 36 * 200 := by omega
    have hP2 : 2 ≤ P.length := hpl.1
    have Hput := Lib.hid hput
    have Hg1 := Lib.hid hg1
    have Hg2 := Lib.hid hg2
    have Hg3 := Lib.hid hg3
    clear hput hp hP hg1 hg2 hg3 hpl hsl
    go_enter Tryd.func8, Tryd.ntmps8
    go_wp2_with fail
    refine Calls.mono (Hput.out _ ((HL.out.below HA.out).more (by simp))) ?_
    rintro e w1 ⟨v1, rfl, ho1, hb1⟩
    obtain ⟨A1, c1, rfl, p1, p2, p3, p4⟩ := ho1.opens
    have hs0 : w.heap.size ≤ (w.alloc (.cells #[.int .i64 size, .int .i64 n, .slice L l.length d] 36)).heap.size := by simp
    have HB1 := Lib.hid (HA.out.trans (hb1.mono hs0))
    have HP1 := Lib.hid p3
    have HBx1 := Lib.hid (HBx.out.below hb1 HBx.out.lt)
    have hget1 := get_calls P A1 c1 w1 p3 p1 p2
    simp only [Hg1.out] at hget1
    have Hget1 := Lib.hid hget1
    clear ho1 hb1 p3 p4 hs0 hget1 hcx hcy hcz HBx
    go_wp2_with fail
    refine Calls.mono Hget1.out ?_
    rintro e w2 ⟨v2, rfl, ho2, hb2⟩
    obtain ⟨A2, c2, rfl, q1, q2, q3, q4⟩ := ho2.opens
    have HB2 := Lib.hid (HB1.out.trans (hb2.mono HB1.out.size))
    have HP2 := Lib.hid ((HP1.out.below hb2).more hb2.size)
    have HBx2 := Lib.hid (HBx1.out.below hb2 HBx1.out.lt)
    have HR2 := Lib.hid q3
    have hcx := HBx2.out.cell 0
    have hcy := HBx2.out.cell 1
    have hcz := HBx2.out.cell 2
    have t2 : decide ((P.length : Int) < 2) = false := decide_eq_false (by omega)
    clear ho2 hb2 q3 q4 HB1 HP1 HBx1 Hget1
    obtain ⟨N, hN⟩ : ∃ N, N = l.length := ⟨_, rfl⟩
    rw [← hN] at hcz
    have HN := Lib.hid hN
    rw [← hN]
    have hNb : N ≤ 200 := by omega
    have HL2 := Lib.hid (HL.out.below HB2.out)
    have HBz : Hid (w2.cell? ⟨w.heap.size, 2, none⟩ = some (.slice L N d)) := Lib.hid (by rw [hN]; exact HBx2.out.cell 2)
    clear hN
    go_wp2_with fail
    go_loopg [11] N (fun q v11 wr => ∃ k : Nat, k ≤ N ∧ q = N - k ∧ v11 = .int .i64 (k : Int) ∧ ∃ j, wr = w2.drewN j)
    case atStart => exact ⟨0, by omega, rfl, rfl, 0, rfl⟩
    case round =>
      obtain ⟨k, hk, hq2, rfl, j, rfl⟩ := hrel
      have Hq := Lib.hid hq2
      clear hq2
      by_cases hkn : k < N
      · have t1 : decide ((k : Int) < (N : Int)) = true := decide_eq_true (by omega)
        have hkl : k < l.length := by rw [← HN.out]; exact hkn
        obtain ⟨b1, o1, rfl, hb1, hc1⟩ := HR2.out.at_ (sg_get hkl)
        obtain ⟨b2, o2, rfl, hb2, hc2⟩ := HL2.out.at_ (sg_get hkl)
        have hla := rw_len HL2.out.1 hkl
        obtain ⟨x, hx⟩ : ∃ x, x = sg l k := ⟨_, rfl⟩
        rw [← hx] at hc1 hc2 hla
        have hne : ∀ w', (binOp .neq 49 (.agg (sgv x).toArray) (.agg (sgv x).toArray)).run Tryd.prog w' = .ok (.bool false) w' := fun w' => by rw [run_neSig x x hla hla w', beq_self_eq_true]; rfl
        have Hla := Lib.hid hla
        have HC1 : Hid ((w2.drewN j).drew.rangeAt b1 (o1 + k * 33) (sgv x)) := Lib.hid hc1
        have HC2 : Hid ((w2.drewN j).drew.rangeAt b2 (o2 + k * 33) (sgv x)) := Lib.hid hc2
        have HB1' : Hid (b1 < (w2.drewN j).drew.heap.size) := Lib.hid hb1
        have HB2' : Hid (b2 < (w2.drewN j).drew.heap.size) := Lib.hid (Nat.lt_of_lt_of_le hb2 HB2.out.size)
        have HBz' : Hid ((w2.drewN j).drew.cell? ⟨w.heap.size, 2, none⟩ = some (.slice (some ⟨b2, o2, none⟩) N d)) := Lib.hid HBz.out
        have Hlt : Hid (w.heap.size < (w2.drewN j).drew.heap.size) := Lib.hid HBx2.out.lt
        clear hx hla hc1 hc2 hb1 hb2 hkl
        go_wp2_with fail
        refine CanB.region 1000 (.op 0 2 (.op 1 2 (.op 2 2 (.op 3 1 (.op 4 2 (.op 5 1 (.op 6 2 (.op 7 2 (.op 8 1 (.op 9 2 (.nil))))))))))) (by kernel_rfl) (by kernel_rfl) ?_
        repeat (first | (refine CanT.skip rfl ?_ (fun K hK => ?_); (focus (go_simp; done)); go_simp; refine hK _ ?_; clear hK K) | (refine CanT.pur rfl ?_ ?_; (focus (go_simp; done)); refine ⟨?_, ?_, ?_⟩; rotate_left; (focus (intro w'; go_simp; rfl)); (focus (intro K hK; go_simp; refine hK _ ?_; clear hK K))) | (refine CanB.row rfl ?_ 49 _ rfl b1 (o1 + k * 33) (sgv x) rfl HC1.out HB1'.out _ Tryd.underlying49 rfl (by rw [sgv_len Hla.out]; kernel_rfl) (fun K hK => ?_); (focus (go_simp; done)); go_simp; refine hK _ ?_; clear hK K) | (refine CanB.row rfl ?_ 49 _ rfl b2 (o2 + k * 33) (sgv x) rfl HC2.out HB2'.out _ Tryd.underlying49 rfl (by rw [sgv_len Hla.out]; kernel_rfl) (fun K hK => ?_); (focus (go_simp; done)); go_simp; refine hK _ ?_; clear hK K) | (refine CanB.cell rfl ?_ (.slice (some ⟨b2, o2, none⟩) N d) (.slice (some ⟨b2, o2, none⟩) N d) ⟨w.heap.size, 2, none⟩ HBz'.out Hlt.out ?_ (fun K hK => ?_); (focus (go_simp; done)); (focus (intro w' hc'; go_simp; (try rfl))); go_simp; refine hK _ ?_; clear hK K))
        refine CanT.done ?_
        go_wp2_with fail
        go_roundg (N - (k + 1))
        case rel => exact ⟨k + 1, by omega, rfl, rfl, j + 1, rfl⟩
        case measure => have := Hq.out; omega
      · have hkn2 : k = N := by omega
        have t1 : decide ((k : Int) < (N : Int)) = false := decide_eq_false (by omega)
        have t3 : ¬ k < N := by omega
        have HB3 := Lib.hid (below_drewN HB2.out j)
        have HP3 : Hid (ReadB (w2.drewN j) w2.heap.size A1 P) := HP2
        have hs3 : (w2.drewN j).heap.size = w2.heap.size := by simp
        have Hs3 := Lib.hid hs3
        clear HB2 HP2 HBx2 HR2 HL2 HBz hcx hcy hcz hs3
        generalize w2.drewN j = w3 at *
        obtain ⟨i0, hi0⟩ := isByte_of info5
        have Hi := Lib.hid hi0
        clear hi0
        go_wp2_with (first
          | (at_builtin; refine wpList_appB _ rfl (.tmp 99) (.tmp 100) 22 rfl w3.heap.size 5 i0 Tryd.underlying22 Hi.out _ [] rfl (OwnB.lit0 w3 5 w3.heap.size w3.heap.size rfl (Nat.le_refl _)) w2.heap.size A1 P.length c1 P rfl rfl (HP3.out.alloc (by rw [Hs3.out]; exact Nat.le_refl _) _) (by simp; omega) (by simp) ?_; intro v4 w4 ho4 _ _ hb4; rw [List.nil_append] at ho4; have HO4 := Lib.hid ho4; have HB4 := Lib.hid (HB3.out.trans ((((Below.refl _ _).alloc (Nat.le_refl _) _).trans hb4).mono HB3.out.size)); have HP4 := Lib.hid (HP3.out.below ((((Below.refl _ _).alloc (Nat.le_refl _) _).trans hb4).mono (by rw [Hs3.out]; exact Nat.le_refl _))); have HS4 := Lib.hid (Nat.le_trans (Nat.le_of_eq Hs3.out.symm) (Nat.le_trans (by simp) hb4.size)); clear ho4 hb4)
          | (at_builtin; refine wpList_appB _ rfl (.tmp 101) (.tmp 102) 22 rfl w3.heap.size 5 i0 Tryd.underlying22 Hi.out v4 P rfl (HO4.out.alloc _) _ _ 1 1 [0] rfl rfl (ReadB.lit1 _ _ 0 0 rfl) (by simp; omega) (by have := Hs3.out; have := HS4.out; simp; omega) ?_; intro v5 w5 ho5 _ _ hb5))
        obtain ⟨A5, c5, rfl, y1, y2, y3, y4⟩ := ho5.opens
        have HB5 := Lib.hid (HB4.out.trans (((Below.refl _ _).alloc (Nat.le_refl _) _).mono HB4.out.size |>.trans (hb5.mono HB3.out.size)))
        have HP5 := Lib.hid (HP4.out.below ((((Below.refl _ _).alloc (Nat.le_refl _) _).mono HS4.out).trans (hb5.mono (by rw [Hs3.out]; exact Nat.le_refl _))))
        have HS5 : Hid (w2.heap.size ≤ w5.heap.size) := Lib.hid (Nat.le_trans HS4.out (Nat.le_trans (by simp) hb5.size))
        have hga := get_calls (P ++ [0]) A5 c5 w5 y3 y1 y2
        rw [Hg2.out] at hga
        simp only [none4] at hga
        have Hga := Lib.hid hga
        clear ho5 hb5 y3 y4 hga
        refine Calls.mono Hga.out ?_
        rintro e w6 ⟨v6, rfl, ho6, hb6⟩
        have HB6 := Lib.hid (HB5.out.trans (hb6.mono HB5.out.size))
        have HP6 := Lib.hid (HP5.out.below (hb6.mono (by have := HS5.out; have := HB5.out.size; omega)))
        have HB6x : w2.heap.size ≤ w6.heap.size := Nat.le_trans HS5.out hb6.size
        clear ho6 hb6
        have hm1 : (P.length : Int) - 1 = ((P.length - 1 : Nat) : Int) := by omega
        have hgb := get_calls (P.take (P.length - 1)) A1 c1 w6 ((ReadB.take HP6.out (P.length - 1)).more (by have := HS5.out; have := HB6x; omega)) (by rw [List.length_take]; omega) p2
        rw [Hg3.out, List.length_take, Nat.min_eq_left (Nat.sub_le _ _)] at hgb
        simp only [none4] at hgb
        have Hgb := Lib.hid hgb
        clear hgb
        go_wp2_with fail
        refine Calls.mono Hgb.out ?_
        rintro e w10 ⟨v10, rfl, ho10, hb10⟩
        have HB10 := Lib.hid (HB6.out.trans (hb10.mono HB6.out.size))
        clear ho10 hb10 hm1

        have HRW := Lib.hid ((Hr.out.below HB10.out).more HB10.out.size)
        go_wp2_with fail
        refine Calls.mono (Hgt.out _ HRW.out) ?_
        rintro e w7 ⟨v7, rfl, ho7, hb7⟩
        obtain ⟨A7, c7, rfl, s1, s2, s3, s4⟩ := ho7.opens
        have HB7 := Lib.hid (HB10.out.trans (hb7.mono HB10.out.size))
        have HR7 := Lib.hid s3
        clear ho7 hb7 s3 s4
        by_cases hr4 : r4 = 0
        · have hp2 := Hpg.out hr4
          have hput2 := put_calls r1 r2 r3 A7 c7 (by omega) (by omega) (by omega) w7 HR7.out
          rw [hp2] at hput2
          simp only at hput2
          have Hput2 := Lib.hid hput2
          have hx0 : (r4 != 0) = false := by rw [hr4]; rfl
          clear hp2 hput2
          go_wp2_with fail
          refine Calls.mono Hput2.out ?_
          rintro e w8 ⟨v8, rfl, ho8, hb8⟩
          obtain ⟨A8, c8, rfl, s1, s2, s3, s4⟩ := ho8.opens
          have HB8 := Lib.hid (HB7.out.trans (hb8.mono HB7.out.size))
          have hst1 := strof_bk w8 _ A8 c8 raw s3
          have hst2 := strof_bk w8 _ A c raw (Hr.out.below HB8.out)
          have hbq := beq_str raw
          clear ho8 hb8 s3 s4
          go_wp2_with (go_at_call 9; refine (Hw.out _ (Htab.out.below HB8.out)).mono ?_; rintro e w9 ⟨rfl, hb9⟩)
          go_ret
          exact ⟨rfl, HB8.out.trans (hb9.mono HB8.out.size)⟩
        · have hz := Hgn.out hr4
          simp only [Prod.mk.injEq] at hz
          obtain ⟨rfl, rfl, rfl, rfl⟩ := hz
          go_wp2_with (go_at_call 9; refine (Hw.out _ (Htab.out.below HB7.out)).mono ?_; rintro e w9 ⟨rfl, hb9⟩)
          go_ret
          exact ⟨rfl, HB7.out.trans (hb9.mono HB7.out.size)⟩
  · obtain ⟨z1, z2, hz⟩ : ∃ z1 z2, put size n l = (z1, z2) := ⟨_, _, rfl⟩
    have hz2 : z2 ≠ 0 := by
      intro h
      have := (put_ok size n l (by rw [hz]; exact h)).1
      exact hq this
    have hz3 : (z2 == 0) = false := by simpa using hz2
    simp only [hz] at hput
    have Hput := Lib.hid hput
    clear hput hz
    go_enter Tryd.func8, Tryd.ntmps8
    go_wp2_with fail
    refine Calls.mono (Hput.out _ ((HL.out.below HA.out).more (by simp))) ?_
    rintro e w1 ⟨v1, rfl, ho1, hb1⟩
    have hs0 : w.heap.size ≤ (w.alloc (.cells #[.int .i64 size, .int .i64 n, .slice L l.length d] 36)).heap.size := by simp
    have HB1 := Lib.hid (HA.out.trans (hb1.mono hs0))
    clear ho1 hb1 hs0 hcx hcy hcz HBx

    have HRW := Lib.hid ((Hr.out.below HB1.out).more HB1.out.size)
    go_wp2_with fail
    refine Calls.mono (Hgt.out _ HRW.out) ?_
    rintro e w7 ⟨v7, rfl, ho7, hb7⟩
    obtain ⟨A7, c7, rfl, s1, s2, s3, s4⟩ := ho7.opens
    have HB7 := Lib.hid (HB1.out.trans (hb7.mono HB1.out.size))
    have HR7 := Lib.hid s3
    clear ho7 hb7 s3 s4
    by_cases hr4 : r4 = 0
    · have hp2 := Hpg.out hr4
      have hput2 := put_calls r1 r2 r3 A7 c7 (by omega) (by omega) (by omega) w7 HR7.out
      rw [hp2] at hput2
      simp only at hput2
      have Hput2 := Lib.hid hput2
      have hx0 : (r4 != 0) = false := by rw [hr4]; rfl
      clear hp2 hput2
      go_wp2_with fail
      refine Calls.mono Hput2.out ?_
      rintro e w8 ⟨v8, rfl, ho8, hb8⟩
      obtain ⟨A8, c8, rfl, s1, s2, s3, s4⟩ := ho8.opens
      have HB8 := Lib.hid (HB7.out.trans (hb8.mono HB7.out.size))
      have hst1 := strof_bk w8 _ A8 c8 raw s3
      have hst2 := strof_bk w8 _ A c raw (Hr.out.below HB8.out)
      have hbq := beq_str raw
      clear ho8 hb8 s3 s4
      go_wp2_with (go_at_call 9; refine (Hw.out _ (Htab.out.below HB8.out)).mono ?_; rintro e w9 ⟨rfl, hb9⟩)
      go_ret
      exact ⟨rfl, HB8.out.trans (hb9.mono HB8.out.size)⟩
    · have hz := Hgn.out hr4
      simp only [Prod.mk.injEq] at hz
      obtain ⟨rfl, rfl, rfl, rfl⟩ := hz
      go_wp2_with (go_at_call 9; refine (Hw.out _ (Htab.out.below HB7.out)).mono ?_; rintro e w9 ⟨rfl, hb9⟩)
      go_ret
      exact ⟨rfl, HB7.out.trans (hb9.mono HB7.out.size)⟩
end Bk
end Go.Proofs.YtcbkhbnemhkheaaDoor
/- How a row's arguments are opened: bytes that came in, read as a list of bytes; how many there may be. -/
namespace Go.Proofs.YtcbkhbnemhkheaaDoor
namespace Rk
open Go.ChangeShapes Go.WideShapes Go.ChangeAt Go.RowKit Ba
set_option linter.unusedVariables false

theorem bd_i64 {n : Int} (h : (Lit.int .i64 n).wf = true) : -9223372036854775808 ≤ n ∧ n ≤ 9223372036854775807 := by
  simpa [Lit.wf, IntKind.min, IntKind.max, IntKind.signed, IntKind.bits] using h
theorem bd_u8 {n : Int} (h : (Lit.int .u8 n).wf = true) : 0 ≤ n ∧ n ≤ 255 := by
  simpa [Lit.wf, IntKind.min, IntKind.max, IntKind.signed, IntKind.bits] using h
theorem bd_u16 {n : Int} (h : (Lit.int .u16 n).wf = true) : 0 ≤ n ∧ n ≤ 65535 := by
  simpa [Lit.wf, IntKind.min, IntKind.max, IntKind.signed, IntKind.bits] using h
theorem bd_u32 {n : Int} (h : (Lit.int .u32 n).wf = true) : 0 ≤ n ∧ n ≤ 4294967295 := by
  simpa [Lit.wf, IntKind.min, IntKind.max, IntKind.signed, IntKind.bits] using h

theorem bytes_open {H : Type} {enc : TypeId × Value → H} {P : Program} {W : World} {base : Nat} {spare : Nat → Bool} {held : Bool} {t e : TypeId} {a : Option Addr} {len cap : Nat} {d : DataW H} {ps : List MemPlace}
    (hu : P.underlying t = some (.slice e)) (he : P.underlying e = some (.int .u8)) (hc : P.cellsOf e = 1) (h : DataW.Trod enc P W base spare held t (.slice a len cap) d ps) :
    ∃ l : List UInt8, len = l.length ∧ l.length ≤ cap ∧ cap ≤ 9223372036854775807 ∧ ReadB W W.heap.size a l := by
  obtain ⟨fuel, hf⟩ := h
  rcases open_ints hu he hc hf with ⟨hcs, _⟩ | ⟨x, l, c, zs, hcs, _, hl, hm, hz, hx, hcell, hwz⟩
  · simp [Value.cells] at hcs
    obtain ⟨rfl, rfl, rfl⟩ := hcs
    exact ⟨[], rfl, by simp, by omega, ReadB.nil⟩
  · simp [Value.cells] at hcs
    obtain ⟨rfl, rfl, rfl⟩ := hcs
    have hl2 : len ≤ zs.length := by
      rw [hz]
      split
      · exact hl
      · exact Nat.le_refl _
    have hb : ∀ k, k < zs.length → ((UInt8.ofNat (zs.getD k 0).toNat).toNat : Int) = zs.getD k 0 := fun k hk => by
      have hmem : zs.getD k 0 ∈ zs := by simp [List.getD, hk]
      have := bd_u8 (hwz _ hmem)
      rw [UInt8.toNat_ofNat']
      omega
    refine ⟨(zs.take len).map fun z => UInt8.ofNat z.toNat, by simp; omega, by simp; omega, by simpa [maxLen] using hm, ?_⟩
    intro hn
    have hn2 : 0 < len := by simp at hn; omega
    have h0 : W.cell? x = some (.int .u8 (zs.getD 0 0)) := by
      have := hcell 0 (by omega)
      rwa [add_zero_] at this
    have hs : x.spot = none := by
      unfold World.cell? at h0
      split at h0
      · split at h0
        · cases h0
        · rename_i hs; simpa using hs
      · cases h0
    have hblk := block_lt_of_cell h0
    obtain ⟨b, o, s⟩ := x
    simp only at hs
    subst hs
    refine ⟨b, o, rfl, hblk, fun k hk => ?_⟩
    have hk2 : k < len := by simp at hk; omega
    have := hcell k (by omega)
    rw [add_lit_] at this
    rw [this]
    have e : (((zs.take len).map fun z => UInt8.ofNat z.toNat).getD k 0) = UInt8.ofNat (zs.getD k 0).toNat := by
      simp [List.getD, hk2, show k < zs.length by omega]
    rw [e, hb k (by omega)]

theorem sized_ints {H : Type} {enc : TypeId × Value → H} {P : Program} {W : World} {base : Nat} {spare : Nat → Bool} {held : Bool} {t e : TypeId} {k : IntKind} {a : Option Addr} {len cap : Nat} {d : DataW H} {ps : List MemPlace} {ts : List TypeId} {ds : List (DataW H)} {j : Nat}
    (hsz : (DataW.weightsEach P ts ds).all (· ≤ reachBytes) = true) (ht : ts[j]? = some t) (hd : ds[j]? = some d) (hu : P.underlying t = some (.slice e)) (he : P.underlying e = some (.int k)) (hc : P.cellsOf e = 1) {B : Nat} (hB : P.bytesOf e = B)
    (h : DataW.Trod enc P W base spare held t (.slice a len cap) d ps) : len * B ≤ 140737488351232 := by
  obtain ⟨fuel, hf⟩ := h
  rcases open_ints hu he hc hf with ⟨hcs, _⟩ | ⟨x, l, c, zs, hcs, _, hl, _, hz, hx, _, _⟩
  · simp [Value.cells] at hcs
    obtain ⟨rfl, rfl, rfl⟩ := hcs
    simp
  · simp [Value.cells] at hcs
    obtain ⟨rfl, rfl, rfl⟩ := hcs
    obtain ⟨hx, _⟩ := Prod.mk.inj hx
    subst hx
    have z := sized_slice hsz ht hd hu
    rw [hB] at z
    have hl2 : len ≤ zs.length := by
      rw [hz]
      split
      · exact hl
      · exact Nat.le_refl _
    have h1 : (lits (H := H) k (zs.take len)).length + (lits (H := H) k (zs.drop len)).length = zs.length := by
      simp [lits]
      omega
    rw [h1] at z
    exact Nat.le_trans (Nat.mul_le_mul_right _ hl2) z
end Rk
end Go.Proofs.YtcbkhbnemhkheaaDoor
/- Arguments: slices of records, structs, arrays of bytes: opened from what they read as, cell by cell. -/
namespace Go.Proofs.YtcbkhbnemhkheaaDoor
namespace Rk
open Go.ChangeShapes Go.WideShapes Go.ChangeAt Go.RowKit Ba
set_option linter.unusedVariables false
section
variable {H : Type} {enc : TypeId × Value → H} {P : Program} {W : World} {base : Nat} {spare : Nat → Bool} {held : Bool}
theorem cells_plain {x : Addr} {v : Value} (h0 : W.cell? x = some v) : ∃ b o, x = ⟨b, o, none⟩ ∧ b < W.heap.size := by
  have hs : x.spot = none := by
    unfold World.cell? at h0
    split at h0
    · split at h0
      · cases h0
      · rename_i hs; simpa using hs
    · cases h0
  have hblk := block_lt_of_cell h0
  obtain ⟨b, o, s⟩ := x
  simp only at hs
  subst hs
  exact ⟨b, o, rfl, hblk⟩
/-- a slice of records -/
theorem open_rows {α : Type} {f : α → List Value} {sz : Nat} (Wf : α → Prop) {t e : TypeId} {fuel : Nat} {cs : List Value} {x : DataW H × List MemPlace} (hu : P.underlying t = some (.slice e)) (ce : P.cellsOf e = sz) (hsz : 0 < sz)
    (hel : ∀ fuel cs x, DataW.trod enc P W base spare held fuel e cs = some x → ∃ y, cs = f y ∧ Wf y) (h1 : ∀ y, Wf y → ∀ u ∈ f y, u.oneCell' = true) (hln : ∀ y, Wf y → (f y).length = sz)
    (h : DataW.trod enc P W base spare held fuel t cs = some x) :
    ∃ (A : Option Addr) (l : List α) (c : Nat), cs = [.slice A l.length c] ∧ l.length ≤ c ∧ c ≤ 9223372036854775807 ∧ ReadRow f sz W W.heap.size A l ∧ ∀ y ∈ l, Wf y := by
  rcases Deep.open_slice hu h with ⟨hcs, _⟩ | ⟨a, len, cap, m, n, D, Pl, hcs, _, hl, hm, hmm, hx0, hcell⟩
  · exact ⟨none, [], 0, hcs, by simp, by omega, ReadRow.nil, by simp⟩
  · have hl2 : len ≤ m := by rw [hmm]; split <;> omega
    have key : ∀ i, i < len → ∃ y, Wf y ∧ ∀ j u, (f y)[j]? = some u → W.cell? (a.add (i * sz + j)) = some u := fun i hi => by
      obtain ⟨cs', q1, q2⟩ := hcell i (by omega)
      obtain ⟨y, rfl, hy⟩ := hel _ _ _ q2
      obtain ⟨_, q3, q4⟩ := World.cells?_some q1
      rw [ce] at q3 q4
      refine ⟨y, hy, fun j u hj => ?_⟩
      have hjs : j < sz := by
        rcases Nat.lt_or_ge j sz with h | h
        · exact h
        · rw [List.getElem?_eq_none (by omega)] at hj; cases hj
      rw [← add_of_add, q4 j hjs]
      exact hj
    have hex : ∃ l : List α, l.length = len ∧ ∀ i y, l[i]? = some y → Wf y ∧ ∀ j u, (f y)[j]? = some u → W.cell? (a.add (i * sz + j)) = some u := by
      clear hcs hl hm hmm hcell hl2 hx0
      induction len with
      | zero => exact ⟨[], rfl, by simp⟩
      | succ k ih =>
        obtain ⟨l, h1, h2⟩ := ih (fun i hi => key i (by omega))
        obtain ⟨y, h3, h4⟩ := key k (by omega)
        refine ⟨l ++ [y], by simp [h1], fun i z hz => ?_⟩
        rcases Nat.lt_or_ge i l.length with h | h
        · rw [List.getElem?_append_left h] at hz
          exact h2 i z hz
        · rw [List.getElem?_append_right h] at hz
          have h0 : i - l.length = 0 := by
            rcases Nat.eq_zero_or_pos (i - l.length) with h | h
            · exact h
            · rw [List.getElem?_eq_none (by simp; omega)] at hz; cases hz
          rw [h0] at hz
          simp at hz
          subst hz
          have : i = k := by omega
          subst this
          exact ⟨h3, h4⟩
    obtain ⟨l, hl3, hl4⟩ := hex
    have hwf : ∀ y ∈ l, Wf y := fun y hy => by
      obtain ⟨i, hi⟩ := List.getElem?_of_mem hy
      exact (hl4 i y hi).1
    have hR : RWf f sz l := fun y hy => ⟨hln y (hwf y hy), h1 y (hwf y hy)⟩
    subst hl3
    refine ⟨some a, l, cap, hcs, hl, by simpa [maxLen] using hm, ⟨hR, fun hn => ?_⟩, hwf⟩
    have hc0 : ∀ j u, (rows f l)[j]? = some u → W.cell? (a.add j) = some u := fun j u hu => by
      have hj : j < l.length * sz := by
        rcases Nat.lt_or_ge j (l.length * sz) with h | h
        · exact h
        · rw [List.getElem?_eq_none (by rw [rows_len hR]; exact h)] at hu; cases hu
      have hd : j / sz < l.length := Nat.div_lt_of_lt_mul (by rw [Nat.mul_comm]; exact hj)
      have e : j = j / sz * sz + j % sz := by rw [Nat.mul_comm]; exact (Nat.div_add_mod j sz).symm
      have hg := rows_get hR (List.getElem?_eq_getElem hd) (j % sz) (Nat.mod_lt _ hsz)
      rw [← e, hu] at hg
      have := (hl4 _ _ (List.getElem?_eq_getElem hd)).2 (j % sz) u hg.symm
      rwa [← e] at this
    obtain ⟨u0, hu0⟩ : ∃ u, (rows f l)[0]? = some u := by
      have : 0 < (rows f l).length := by rw [rows_len hR]; exact Nat.mul_pos hn hsz
      exact ⟨_, List.getElem?_eq_getElem this⟩
    have h00 := hc0 0 u0 hu0
    rw [add_zero_] at h00
    obtain ⟨b, o, rfl, hb⟩ := cells_plain h00
    exact ⟨b, o, rfl, hb, fun j u hu => by rw [← add_lit_]; exact hc0 j u hu⟩
/-- an array of bytes -/
theorem open_arr {t e : TypeId} {n fuel : Nat} {cs : List Value} {x : DataW H × List MemPlace} (hu : P.underlying t = some (.array n e)) (he : P.underlying e = some (.int .u8)) (ce : P.cellsOf e = 1) (ct : P.cellsOf t = n)
    (h : DataW.trod enc P W base spare held fuel t cs = some x) : ∃ l : List UInt8, cs = bvs l ∧ l.length = n := by
  obtain ⟨xs, m, rfl, _, hl, hxs, hi⟩ := DataW.trod_array hu h
  have hcl : cs.length = n := by omega
  have key : ∀ i, i < n → ∃ b : UInt8, cs[i]? = some (bv b) := fun i hin => by
    have h1 := hi i hin
    rw [ce, Nat.mul_one, List.getElem?_eq_getElem (show i < xs.length by omega)] at h1
    obtain ⟨z, e0, _, w0⟩ := DataW.trod_int he h1
    have hb := bd_u8 w0
    have hil : i < cs.length := by omega
    have e1 : (cs.drop i).take 1 = [cs[i]] := by
      rw [List.drop_eq_getElem_cons hil]; rfl
    rw [e1] at e0
    injection e0 with e0
    refine ⟨UInt8.ofNat z.toNat, ?_⟩
    rw [List.getElem?_eq_getElem hil, e0]
    unfold bv
    rw [UInt8.toNat_ofNat']
    congr 2
    omega
  refine ⟨(List.range n).map fun i => if hin : i < n then (key i hin).choose else 0, ?_, by simp⟩
  refine List.ext_getElem? fun i => ?_
  by_cases hin : i < n
  · rw [(key i hin).choose_spec]
    simp [bvs, hin]
  · rw [List.getElem?_eq_none (by omega), List.getElem?_eq_none (by simp [bvs]; omega)]
/-- a struct's field -/
theorem open_field {t : TypeId} {fs : Array Field} {fuel : Nat} {cs : List Value} {x : DataW H × List MemPlace} (ht : P.underlying t = some (.struct fs)) (h : DataW.trod enc P W base spare held fuel t cs = some x) :
    cs.length = P.cellsOf t ∧ ∀ (i : Nat) (f : Field), fs[i]? = some f → ∃ m y, DataW.trod enc P W base spare held m f.type ((cs.drop f.offset).take (P.cellsOf f.type)) = some y := by
  obtain ⟨xs, m, rfl, _, hl, hxs, hi⟩ := DataW.trod_struct ht h
  refine ⟨hl, fun i f hf => ?_⟩
  have hil : i < xs.length := by
    rw [hxs]
    exact (Array.getElem?_eq_some_iff.1 hf).1
  have := hi i f hf
  rw [List.getElem?_eq_getElem hil] at this
  exact ⟨m, _, this⟩
/-- a struct by value has its cells -/
theorem agg_of {b2 : Nat} {t : TypeId} {fs : Array Field} {v : Value} (ht : P.underlying t = some (.struct fs)) (hv : Value.okWide P W .any b2 t v) : ∃ cs, v = .agg cs := by
  unfold Value.okWide at hv
  simp only [ht] at hv
  obtain ⟨cs, h1, _⟩ := hv
  exact ⟨cs, h1⟩
end
end Rk
end Go.Proofs.YtcbkhbnemhkheaaDoor
/- Arguments: sums. -/
namespace Go.Proofs.YtcbkhbnemhkheaaDoor
namespace Rk
open Go.ChangeShapes Go.WideShapes Go.ChangeAt Go.RowKit Ba Bk
set_option linter.unusedVariables false
theorem sigF : (Tryd.prog.fieldsOf 49).toList.map (fun f => (f.type, f.offset)) = [(33, 0), (47, 1)] := by kernel_rfl
theorem sumsF : (Tryd.prog.fieldsOf 36).toList.map (fun f => (f.type, f.offset)) = [(3, 0), (3, 1), (24, 2)] := by kernel_rfl
theorem fields_at {P : Program} {t : TypeId} {l : List (TypeId × Nat)} (h : (P.fieldsOf t).toList.map (fun f => (f.type, f.offset)) = l) (i : Nat) (a : TypeId) (o : Nat) (hi : l[i]? = some (a, o)) : ∃ f, (P.fieldsOf t)[i]? = some f ∧ f.type = a ∧ f.offset = o := by
  subst h
  rw [List.getElem?_map] at hi
  obtain ⟨f, hf, e⟩ := Option.map_eq_some_iff.1 hi
  simp only [Prod.mk.injEq] at e
  exact ⟨f, by rw [← Array.getElem?_toList]; exact hf, e.1, e.2⟩
section
variable {H : Type} {enc : TypeId × Value → H} {W : World} {base : Nat} {spare : Nat → Bool} {held : Bool}
theorem open_sig {fuel : Nat} {cs : List Value} {x : DataW H × List MemPlace} (h : DataW.trod enc Tryd.prog W base spare held fuel 49 cs = some x) : ∃ s : Sg, cs = sgv s ∧ WfS s := by
  obtain ⟨hl, hf⟩ := open_field (t := 49) (fs := Tryd.prog.fieldsOf 49) (by kernel_rfl) h
  obtain ⟨f0, g0, t0, o0⟩ := fields_at sigF 0 33 0 rfl
  obtain ⟨f1, g1, t1, o1⟩ := fields_at sigF 1 47 1 rfl
  obtain ⟨m0, y0, h0⟩ := hf 0 f0 g0
  obtain ⟨m1, y1, h1⟩ := hf 1 f1 g1
  rw [t0, o0, show Tryd.prog.cellsOf 33 = 1 by kernel_rfl] at h0
  rw [t1, o1, show Tryd.prog.cellsOf 47 = 32 by kernel_rfl] at h1
  rw [show Tryd.prog.cellsOf 49 = 33 by kernel_rfl] at hl
  obtain ⟨z, e0, _, w0⟩ := DataW.trod_int Tryd.underlying33 h0
  obtain ⟨b, e1, hb⟩ := open_arr Tryd.underlying47 Tryd.underlying5 (by kernel_rfl) (by kernel_rfl) h1
  have hz := bd_u32 w0
  refine ⟨(z.toNat, b), ?_, by simp only; omega, hb⟩
  unfold sgv
  have e : cs = cs.take 1 ++ (cs.drop 1).take 32 := by
    rw [List.take_of_length_le (l := cs.drop 1) (by rw [List.length_drop]; omega), List.take_append_drop]
  rw [List.drop_zero] at e0
  rw [e, e0, e1]
  have : ((z.toNat : Nat) : Int) = z := by omega
  simp [this]
set_option maxRecDepth 100000 in
theorem sums_open {b2 : Nat} {v : Value} {d : DataW H} {ps : List MemPlace} (hv : Value.okWide Tryd.prog W .any b2 36 v) (h : DataW.Trod enc Tryd.prog W base spare held 36 v d ps) :
    ∃ (size n : Int) (l : List Sg) (A : Option Addr) (c : Nat), v = .agg #[.int .i64 size, .int .i64 n, .slice A l.length c] ∧ (-9223372036854775808 ≤ size ∧ size ≤ 9223372036854775807) ∧ (-9223372036854775808 ≤ n ∧ n ≤ 9223372036854775807) ∧
      l.length ≤ c ∧ c ≤ 9223372036854775807 ∧ ReadRow sgv 33 W W.heap.size A l ∧ ∀ s ∈ l, WfS s := by
  obtain ⟨cs, rfl⟩ := agg_of (t := 36) (fs := Tryd.prog.fieldsOf 36) (by kernel_rfl) hv
  obtain ⟨fuel, h⟩ := h
  have hcs : (Value.agg cs).cells.toList = cs.toList := rfl
  rw [hcs] at h
  obtain ⟨hl, hf⟩ := open_field (t := 36) (fs := Tryd.prog.fieldsOf 36) (by kernel_rfl) h
  obtain ⟨f0, g0, t0, o0⟩ := fields_at sumsF 0 3 0 rfl
  obtain ⟨f1, g1, t1, o1⟩ := fields_at sumsF 1 3 1 rfl
  obtain ⟨f2, g2, t2, o2⟩ := fields_at sumsF 2 24 2 rfl
  obtain ⟨m0, y0, h0⟩ := hf 0 f0 g0
  obtain ⟨m1, y1, h1⟩ := hf 1 f1 g1
  obtain ⟨m2, y2, h2⟩ := hf 2 f2 g2
  rw [t0, o0, show Tryd.prog.cellsOf 3 = 1 by kernel_rfl] at h0
  rw [t1, o1, show Tryd.prog.cellsOf 3 = 1 by kernel_rfl] at h1
  rw [t2, o2, show Tryd.prog.cellsOf 24 = 1 by kernel_rfl] at h2
  rw [show Tryd.prog.cellsOf 36 = 3 by kernel_rfl] at hl
  obtain ⟨z0, e0, _, w0⟩ := DataW.trod_int Tryd.underlying3 h0
  obtain ⟨z1, e1, _, w1⟩ := DataW.trod_int Tryd.underlying3 h1
  obtain ⟨A, l, c, e2, q1, q2, q3, q4⟩ := open_rows (f := sgv) (sz := 33) WfS Tryd.underlying24 (by kernel_rfl) (by omega) (fun fuel cs x hx => open_sig hx) (fun y _ => sgv_one y) (fun y hy => sgv_len hy.2) h2
  refine ⟨z0, z1, l, A, c, ?_, bd_i64 w0, bd_i64 w1, q1, q2, q3, q4⟩
  congr 1
  apply Array.ext'
  generalize cs.toList = L at *
  match L, hl with
  | [x, y, z], _ =>
    simp at e0 e1 e2
    rw [e0, e1, e2]
end
end Rk
end Go.Proofs.YtcbkhbnemhkheaaDoor
/- What the listed variable gives the walks: the round words lie in it; and the start's own heap meets the condition. -/
namespace Go.Proofs.YtcbkhbnemhkheaaDoor
namespace Ld
open Go.ChangeShapes Go.WideShapes Go.ChangeAt Go.RowKit Sm Ba
set_option linter.unusedVariables false
def laid1 : List (String × DataW Unit) := [("sumpter/sha.rounds", Rows.laid_sumpter_sha_rounds)]
theorem gN : Tryd.prog.globalNamed "sumpter/sha.rounds" = some 0 := by kernel_rfl
theorem gT : (Tryd.prog.globals[0]?).map (·.type) = some 100 := by kernel_rfl
def zs : List Int := rounds.map U
set_option maxRecDepth 100000 in
theorem datum_eq : (Rows.laid_sumpter_sha_rounds : DataW Unit) = Lib.tabData .u32 zs := by rfl
set_option maxRecDepth 100000 in
theorem door_met (os : Os) (args : Array Value) : laidMetH Tryd.prog laid1 ((World.doorLaid Tryd.prog 14 os).forCall (fun _ _ => 0) ⟨#[], args, []⟩).memory :=
  laidMetH_of_parts3 (fuel := 8) (laidMet_of_run' 8 (by kernel_rfl) (by kernel_rfl)) (by kernel_rfl) (by kernel_rfl)
set_option maxRecDepth 100000 in
theorem tab_of_laid {W : World} (h : laidMetH Tryd.prog laid1 W) : Tab W := by
  rw [MakeChecks.laidMetH_plain _ _ _ (by kernel_rfl)] at h
  unfold laid1 at h
  rw [datum_eq] at h
  have hT := Lib.tabIs_of_head gN gT Tryd.underlying100 Tryd.underlying33 (by kernel_rfl) (by kernel_rfl) h
  have hc : ∀ j, j < 64 → W.cell? ⟨0, j, none⟩ = some (.int .u32 (U (Sm.g rounds j))) := fun j hj => by
    have := hT.cell gN j hj
    rw [this]
    congr 2
    unfold zs Sm.g
    have hl : rounds.length = 64 := rfl
    simp only [List.getD_eq_getElem?_getD, List.getElem?_map]
    rw [List.getElem?_eq_getElem (by omega)]
    rfl
  refine ⟨block_lt_of_cell (hc 0 (by omega)), fun j v hv => ?_⟩
  have hj : j < 64 := by
    rcases Nat.lt_or_ge j 64 with h1 | h1
    · exact h1
    · rw [List.getElem?_eq_none (by rw [wvs_len]; exact h1)] at hv; cases hv
  rw [Nat.zero_add, hc j hj, ← hv]
  have hl : rounds.length = 64 := rfl
  unfold wvs Sm.g
  rw [List.getElem?_map, List.getElem?_eq_getElem (by omega), List.getD_eq_getElem?_getD, List.getElem?_eq_getElem (by omega)]
  rfl
end Ld
end Go.Proofs.YtcbkhbnemhkheaaDoor

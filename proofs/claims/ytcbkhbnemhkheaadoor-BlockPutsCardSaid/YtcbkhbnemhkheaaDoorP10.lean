/- The first state and the round words, of the document's answer. -/
import Derived.Test.YtcbkhbnemhkheaaDoorP01
import Derived.Test.YtcbkhbnemhkheaaDoorP02
import Derived.Test.YtcbkhbnemhkheaaDoorP03
import Derived.Test.YtcbkhbnemhkheaaDoorP04
import Derived.Test.YtcbkhbnemhkheaaDoorP05
import Derived.Test.YtcbkhbnemhkheaaDoorP06
import Derived.Test.YtcbkhbnemhkheaaDoorP07
import Derived.Test.YtcbkhbnemhkheaaDoorP08
import Derived.Test.YtcbkhbnemhkheaaDoorP09
namespace Go.Proofs.YtcbkhbnemhkheaaDoor
namespace Sm
open Go.RowKit Ba
set_option linter.unusedVariables false
attribute [local go_sem] U_add U_add' U_xor U_and U_or U_of_u8 U_shr3 U_shr10 U_shl8 U_shl16 U_shl24 U_not U_not'
set_option maxRecDepth 100000 in
set_option maxHeartbeats 1000000 in
theorem rfirst_calls (w : World) : Calls Tryd.prog 50 #[] w fun e w' => e = .returned (.agg (wvs first).toArray) ∧ Below w.heap.size w w' := by
  go_enter Tryd.func50, Tryd.ntmps50
  go_wp2_with (refine wpList_storeW rfl 97 (.tmp 0) (.tmp 1) rfl w.heap.size 97 (List.replicate 8 0) first rfl rfl (BlkW.new_ _ _ _ _ _ (by rfl) (by rfl)) (by rfl) (by kernel_rfl) ?_; intro w2 hW2 hg2)
  refine bodyPost_ret (results_cell_row (p := 0) (ty := 97) (by kernel_rfl) _ w2 w.heap.size 97 (wvs first).toArray (0, 0) _ rfl hW2 Tryd.underlying97 rfl (by kernel_rfl)) rfl ⟨rfl, ?_⟩
  exact only_after ((Below.refl _ _).alloc (Nat.le_refl _) _) hg2 (Nat.le_refl _)
set_option maxRecDepth 100000 in
set_option maxHeartbeats 1000000 in
theorem rwords_calls (w : World) : Calls Tryd.prog 51 #[] w fun e w' => e = .returned (.agg (wvs rounds).toArray) ∧ Below w.heap.size w w' := by
  go_enter Tryd.func51, Tryd.ntmps51
  go_wp2_with (refine wpList_storeW rfl 100 (.tmp 0) (.tmp 1) rfl w.heap.size 100 (List.replicate 64 0) rounds rfl rfl (BlkW.new_ _ _ _ _ _ (by rfl) (by rfl)) (by rfl) (by kernel_rfl) ?_; intro w2 hW2 hg2)
  refine bodyPost_ret (results_cell_row (p := 0) (ty := 100) (by kernel_rfl) _ w2 w.heap.size 100 (wvs rounds).toArray (0, 0) _ rfl hW2 Tryd.underlying100 rfl (by kernel_rfl)) rfl ⟨rfl, ?_⟩
  exact only_after ((Below.refl _ _).alloc (Nat.le_refl _) _) hg2 (Nat.le_refl _)
end Sm
end Go.Proofs.YtcbkhbnemhkheaaDoor
/- A block of 64 bytes is worked into the state, of the document's answer. -/
namespace Go.Proofs.YtcbkhbnemhkheaaDoor
namespace Sm
open Go.RowKit Ba
set_option linter.unusedVariables false
attribute [local go_sem] U_add U_add' U_xor U_and U_or U_of_u8 U_shr3 U_shr10 U_shl8 U_shl16 U_shl24 U_not U_not'
set_option maxRecDepth 100000 in
set_option maxHeartbeats 2000000 in
theorem rblock_calls (s : List UInt32) (hs : s.length = 8) (b : List UInt8) (hb : b.length = 64) (A : Option Addr) (c : Nat) (w : World) (hr : ReadB w w.heap.size A b) :
    Calls Tryd.prog 52 #[.agg (wvs s).toArray, .slice A 64 c, .agg (wvs rounds).toArray] w
    fun e w' => e = .returned (.agg (wvs (block s b)).toArray) ∧ Below w.heap.size w w' := by
  obtain ⟨ab, ao, rfl, hab, hcell⟩ := hr (by omega)
  have Hcell := Lib.hid hcell
  have Hs := Lib.hid hs
  obtain ⟨RA, hRA⟩ : ∃ RA, RA = (wvs rounds).toArray := ⟨_, rfl⟩
  obtain ⟨SA, hSA⟩ : ∃ SA, SA = (wvs s).toArray := ⟨_, rfl⟩
  have HRA := Lib.hid hRA
  have HSA := Lib.hid hSA
  rw [← hRA, ← hSA]
  clear hcell hr hs hRA hSA
  go_enter Tryd.func52, Tryd.ntmps52
  go_wp2_with fail
  obtain ⟨n0, hn0⟩ : ∃ n0, n0 = w.heap.size := ⟨_, rfl⟩
  rw [← hn0]
  have Hn0 := Lib.hid hn0
  clear hn0
  generalize hg7 : n0 + 1 + 1 + 1 = g7
  generalize hg6 : n0 + 1 + 1 = g6
  generalize hg5 : n0 + 1 = g5
  have Hg : Hid (g5 = n0 + 1 ∧ g6 = n0 + 2 ∧ g7 = n0 + 3) := Lib.hid ⟨hg5.symm, hg6.symm, hg7.symm⟩
  clear hg5 hg6 hg7
  go_loopw [8, 9, 10] (fun i _ _ wr => ∃ k : Nat, k ≤ 64 ∧ i = .int .i64 k ∧ BlkW wr g7 100 (xp b k) ∧ BlkW wr n0 97 s ∧ BlkW wr g5 100 rounds ∧ BlkW wr g6 97 (List.replicate 8 0) ∧ Below n0 w wr) (fun i _ _ _ => 64 - (intOf i).toNat)
  case atStart =>
    obtain ⟨e5, e6, e7⟩ := Hg.out
    rw [HRA.out, HSA.out, e5, e6, e7]
    refine ⟨0, Nat.zero_le _, rfl, BlkW.new_ _ _ _ _ _ (by simp [Hn0.out]) (by rfl), ?_, ?_, ?_, ?_⟩
    · exact BlkW.alloc (BlkW.alloc (BlkW.alloc (BlkW.new_ _ _ _ _ _ Hn0.out rfl) _) _) _
    · exact BlkW.alloc (BlkW.alloc (BlkW.new_ _ _ _ _ _ (by simp [Hn0.out]) rfl) _) _
    · exact BlkW.alloc (BlkW.new_ _ _ _ _ _ (by simp [Hn0.out]) (by rfl)) _
    · exact (((((Below.refl _ _).alloc (by rw [Hn0.out]; exact Nat.le_refl _) _).alloc (by simp [Hn0.out]) _).alloc (by simp [Hn0.out]; omega) _).alloc (by simp [Hn0.out]; omega) _)
  case round =>
    obtain ⟨k, hk, rfl, hX, hB3, hB5, hB6, hbel⟩ := hrel
    have HX := Lib.hid hX
    have HB3 := Lib.hid hB3
    have HB5 := Lib.hid hB5
    have HB6 := Lib.hid hB6
    have Hbel := Lib.hid hbel
    have hfk := hX.frozen k
    clear hX hB3 hB5 hB6 hbel
    by_cases hkl : k < 64
    · have hck := HX.out.cell k (by rw [xp_len b k hk]; exact hkl)
      by_cases h16 : k < 16
      · have y0 := (Hbel.out.cell (p := ⟨ab, ao + (4 * k), none⟩) (by rw [Hn0.out]; exact hab)).trans (Hcell.out (4 * k) (by omega))
        have y1 := (Hbel.out.cell (p := ⟨ab, ao + (4 * k + 1), none⟩) (by rw [Hn0.out]; exact hab)).trans (Hcell.out (4 * k + 1) (by omega))
        have y2 := (Hbel.out.cell (p := ⟨ab, ao + (4 * k + 2), none⟩) (by rw [Hn0.out]; exact hab)).trans (Hcell.out (4 * k + 2) (by omega))
        have y3 := (Hbel.out.cell (p := ⟨ab, ao + (4 * k + 3), none⟩) (by rw [Hn0.out]; exact hab)).trans (Hcell.out (4 * k + 3) (by omega))
        obtain ⟨z0, hz0⟩ : ∃ z, z = b.getD (4 * k) 0 := ⟨_, rfl⟩
        obtain ⟨z1, hz1⟩ : ∃ z, z = b.getD (4 * k + 1) 0 := ⟨_, rfl⟩
        obtain ⟨z2, hz2⟩ : ∃ z, z = b.getD (4 * k + 2) 0 := ⟨_, rfl⟩
        obtain ⟨z3, hz3⟩ : ∃ z, z = b.getD (4 * k + 3) 0 := ⟨_, rfl⟩
        rw [← hz0] at y0
        rw [← hz1] at y1
        rw [← hz2] at y2
        rw [← hz3] at y3
        have Hz := Lib.hid (And.intro hz0 (And.intro hz1 (And.intro hz2 hz3)))
        clear hz0 hz1 hz2 hz3
        go_wp2_with fail
        go_region
        go_wp2
        go_roundw
        case rel =>
          obtain ⟨e5, e6, e7⟩ := Hg.out
          refine ⟨k + 1, by omega, by go_num, ?_, (HB3.out.far (by simp; omega) _).drew, (HB5.out.far (by simp; omega) _).drew, (HB6.out.far (by simp; omega) _).drew, (Hbel.out.setCell (by simp; omega) _).drew⟩
          obtain ⟨rfl, rfl, rfl, rfl⟩ := Hz.out
          have := HX.out.set_ k (be b (4 * k))
          rw [xp_lo_set b k h16] at this
          exact this
        case measure => simp [intOf]; omega
      · have h16' : 16 ≤ k := by omega
        have hc15 := HX.out.cell (k - 15) (by rw [xp_len b k hk]; omega)
        have hc2 := HX.out.cell (k - 2) (by rw [xp_len b k hk]; omega)
        have hc16 := HX.out.cell (k - 16) (by rw [xp_len b k hk]; omega)
        have hc7 := HX.out.cell (k - 7) (by rw [xp_len b k hk]; omega)
        rw [xp_at b k _ h16' (by omega)] at hc15 hc2 hc16 hc7
        obtain ⟨ww, hww⟩ : ∃ ww, ww = wl b k := ⟨_, rfl⟩
        rw [← hww] at hc15 hc2 hc16 hc7
        have Hww := Lib.hid hww
        clear hww
        go_wp2_with fail
        go_quiet (fail)
        go_wp2_with fail
        have a1 : ((k : Int) - 16).toNat = k - 16 := by omega
        have a2 : ((k : Int) - 7).toNat = k - 7 := by omega
        have a3 : (0 : Int) ≤ (k : Int) - 16 := by omega
        have a4 : (0 : Int) ≤ (k : Int) - 7 := by omega
        have a5 : (k : Int) - 16 < 64 := by omega
        have a6 : (k : Int) - 7 < 64 := by omega
        have a7 : IntKind.i64.wrap ((k : Int) - 16) = (k : Int) - 16 := IntWalk.i64_in _ (by omega)
        have a8 : IntKind.i64.wrap ((k : Int) - 7) = (k : Int) - 7 := IntWalk.i64_in _ (by omega)
        have a9 : (7 : Int) ≤ (k : Int) := by clear a7 a8; omega
        have a10 : (k : Int) < 71 := by clear a7 a8; omega
        refine CanL.region (fun w' => w'.cell? ⟨g7, k - 16, none⟩ = some (.int .u32 (U (Sm.g ww (k - 16)))) ∧ w'.cell? ⟨g7, k - 7, none⟩ = some (.int .u32 (U (Sm.g ww (k - 7))))) 29 [(0, 2), (1, 2), (2, 2), (3, 2), (4, 1), (5, 2), (7, 2), (10, 2), (11, 2), (14, 2), (15, 2), (16, 2), (17, 1), (19, 2), (21, 2), (24, 2), (25, 2), (6, 0), (8, 0), (9, 2), (12, 2), (13, 2), (18, 2), (20, 0), (22, 0), (23, 2), (26, 2), (27, 2), (28, 2), (29, 0)] (by kernel_rfl) (by kernel_rfl) ⟨hc16, hc7⟩ ?_
        repeat (first | (refine CanL.skip rfl ?_ (fun K hK => ?_); (focus (go_simp; done)); go_simp; refine hK _ ?_; clear hK K) | (refine CanL.pur rfl ?_ ?_; (focus (go_simp; done)); refine ⟨?_, ?_, ?_⟩; rotate_left; (focus (intro w'; go_simp; rfl)); (focus (intro K hK; go_simp; refine hK _ ?_; clear hK K))) | (refine CanL.held rfl ?_ ?_; (focus (go_simp; done)); refine ⟨?_, ?_, ?_⟩; rotate_left; (focus (intro w' hS'; (try dsimp only at hS'); go_simp; rfl)); (focus (intro K hK; go_simp; refine hK _ ?_; clear hK K))) | (refine CanL.last rfl (fun K hK => ?_); go_simp; refine hK.out _ _ ?_; clear hK K) | (refine CanL.imp rfl (fun K hK => ?_); go_simp; (first | (go_at_call 65; refine (turn_any _ _ (by decide) _).mono ?_; rintro e w4 ⟨rfl, k4, rfl⟩)); go_simp; refine hK.out _ _ (⟨hc16, hc7⟩) ?_; clear hK K))
        refine CanL.done ?_
        clear a1 a2 a3 a4 a5 a6 a7 a8 a9 a10
        go_wp2
        go_roundw
        case rel =>
          obtain ⟨e5, e6, e7⟩ := Hg.out
          refine ⟨k + 1, by omega, by go_num, ?_, ((HB3.out.drewN _).far (by simp; omega) _), ((HB5.out.drewN _).far (by simp; omega) _), ((HB6.out.drewN _).far (by simp; omega) _), ((below_drewN Hbel.out _).setCell (by simp; omega) _)⟩
          have key : ∀ N, BlkW ((wr.drewN N).setCell ⟨g7, k, none⟩ (.int .u32 (U (nextW ww k)))) g7 100 (xp b (k + 1)) := by
            intro N
            have := (HX.out.drewN N).set_ k (nextW (wl b k) k)
            rw [xp_hi_set b k h16' hkl, ← Hww.out] at this
            exact this
          exact key _
        case measure => simp [intOf]; omega
    · have hk64 : k = 64 := by omega
      have hX := HX.out
      rw [hk64, xp_64] at hX
      obtain ⟨ws, hws⟩ : ∃ ws, ws = sched b := ⟨_, rfl⟩
      rw [← hws] at hX
      have hwl : ws.length = 64 := by rw [hws, ← spart64]; exact spart_len b 64 (by omega) (by omega)
      have Hws := Lib.hid hws
      have HX := Lib.hid hX
      have Hwl := Lib.hid hwl
      clear hX hws hwl hk64 hfk hk
      go_wp2_with (first
        | (refine wpList_loadW rfl 97 (.tmp 3) rfl n0 97 s rfl HB3.out _ Tryd.underlying97 rfl (by rw [Hs.out]; kernel_rfl) ?_)
        | (refine wpList_storeW rfl 97 (.tmp 11) (.tmp 96) rfl wr.heap.size 97 (List.replicate 8 0) s rfl rfl (BlkW.new_ _ _ _ _ _ (by rfl) (by rfl)) (by rw [Hs.out]; rfl) (by rw [Hs.out]; kernel_rfl) ?_; intro w3 hV3 hg3))
      have hgl : ∀ g, g < wr.heap.size → some g ≠ some wr.heap.size := fun g h => by simp; omega
      have q3 := BlkW.grown (BlkW.alloc HB3.out _) hg3 (hgl _ HB3.out.lt)
      have q5 := BlkW.grown (BlkW.alloc HB5.out _) hg3 (hgl _ HB5.out.lt)
      have q6 := BlkW.grown (BlkW.alloc HB6.out _) hg3 (hgl _ HB6.out.lt)
      have q7 := BlkW.grown (BlkW.alloc HX.out _) hg3 (hgl _ HX.out.lt)
      have hns : n0 ≤ wr.heap.size := by have := Hbel.out.size; rw [← Hn0.out] at this; exact this
      have qb : Below n0 w w3 := (Hbel.out.alloc hns _).trans (below_of_only hg3 hns (by simp; omega))
      have hlt7 : g7 < wr.heap.size := HX.out.lt
      obtain ⟨g11, hg11⟩ : ∃ g11, g11 = wr.heap.size := ⟨_, rfl⟩
      rw [← hg11] at hV3 hlt7 ⊢
      have Hlt7 := Lib.hid hlt7
      have HV3 := Lib.hid hV3
      have Hq3 := Lib.hid q3
      have Hq5 := Lib.hid q5
      have Hq6 := Lib.hid q6
      have Hq7 := Lib.hid q7
      have Hqb := Lib.hid qb
      clear hg11 hV3 q3 q5 q6 q7 qb hgl hns hlt7 hg3 HX HB3 HB5 HB6 Hbel
      obtain ⟨rt, hrt⟩ : ∃ rt, rt = rounds := ⟨_, rfl⟩
      have Hrt := Lib.hid hrt
      rw [← hrt] at Hq5
      have hrl : rt.length = 64 := by rw [hrt]; rfl
      have Hrl := Lib.hid hrl
      clear hrt hrl
      go_loopw [12, 13, 14, 15, 16] (fun i _ _ _ _ wx => ∃ k : Nat, k ≤ 64 ∧ i = .int .i64 k ∧ BlkW wx g11 97 (runK s ws k) ∧ BlkW wx g7 100 ws ∧ BlkW wx n0 97 s ∧ BlkW wx g5 100 rt ∧ BlkW wx g6 97 (List.replicate 8 0) ∧ Below n0 w wx) (fun i _ _ _ _ _ => 64 - (intOf i).toNat)
      case atStart => exact ⟨0, Nat.zero_le _, rfl, HV3.out, Hq7.out, Hq3.out, Hq5.out, Hq6.out, Hqb.out⟩
      case round =>
        obtain ⟨k, hk, rfl, hV, hX, hB3, hB5, hB6, hbel⟩ := hrel
        obtain ⟨v, hv⟩ : ∃ v, v = runK s ws k := ⟨_, rfl⟩
        have hvl : (runK s ws k).length = 8 := runK_len s ws k Hs.out
        rw [← hv] at hV hvl
        have Hv := Lib.hid hv
        have Hvl := Lib.hid hvl
        have HV := Lib.hid hV
        have HX := Lib.hid hX
        have HB3 := Lib.hid hB3
        have HB5 := Lib.hid hB5
        have HB6 := Lib.hid hB6
        have Hbel := Lib.hid hbel
        clear hv hV hX hB3 hB5 hB6 hbel
        by_cases hkl : k < 64
        · have hv0 := HV.out.cell 0 (by omega)
          have hv1 := HV.out.cell 1 (by omega)
          have hv2 := HV.out.cell 2 (by omega)
          have hv3 := HV.out.cell 3 (by omega)
          have hv4 := HV.out.cell 4 (by omega)
          have hv5 := HV.out.cell 5 (by omega)
          have hv6 := HV.out.cell 6 (by omega)
          have hv7 := HV.out.cell 7 (by omega)
          have hwk := HX.out.cell k (by rw [Hwl.out]; exact hkl)
          have hrk := HB5.out.cell k (by rw [Hrl.out]; exact hkl)
          have j1 : (0 : Int) ≤ (k : Int) := by omega
          have j2 : (k : Int) < 64 := by omega
          clear hvl
          go_wp2_with fail
          go_quiet (fail)
          go_wp2_with fail
          refine CanL.region (fun w' => w'.cell? ⟨g11, 7, none⟩ = some (.int .u32 (U (Sm.g v 7))) ∧ w'.cell? ⟨g11, 5, none⟩ = some (.int .u32 (U (Sm.g v 5))) ∧ w'.cell? ⟨g11, 6, none⟩ = some (.int .u32 (U (Sm.g v 6))) ∧ w'.cell? ⟨g7, k, none⟩ = some (.int .u32 (U (Sm.g ws k))) ∧ w'.cell? ⟨g5, k, none⟩ = some (.int .u32 (U (Sm.g rt k)))) 1000 [(0, 2), (1, 1), (2, 2), (4, 2), (7, 2), (11, 2), (12, 2), (13, 1), (14, 2), (15, 2), (16, 2), (17, 2), (18, 1), (19, 2), (20, 2), (22, 2), (23, 2), (24, 1), (26, 2), (27, 2), (28, 1), (3, 0), (5, 0), (6, 2), (8, 0), (9, 2), (10, 2), (21, 2), (25, 2), (29, 2), (30, 2)] (by kernel_rfl) (by kernel_rfl) ⟨hv7, hv5, hv6, hwk, hrk⟩ ?_
          repeat (first | (refine CanL.skip rfl ?_ (fun K hK => ?_); (focus (go_simp; done)); go_simp; refine hK _ ?_; clear hK K) | (refine CanL.pur rfl ?_ ?_; (focus (go_simp; done)); refine ⟨?_, ?_, ?_⟩; rotate_left; (focus (intro w'; go_simp; rfl)); (focus (intro K hK; go_simp; refine hK _ ?_; clear hK K))) | (refine CanL.held rfl ?_ ?_; (focus (go_simp; done)); refine ⟨?_, ?_, ?_⟩; rotate_left; (focus (intro w' hS'; (try dsimp only at hS'); go_simp; rfl)); (focus (intro K hK; go_simp; refine hK _ ?_; clear hK K))) | (refine CanL.last rfl (fun K hK => ?_); go_simp; refine hK.out _ _ ?_; clear hK K) | (refine CanL.imp rfl (fun K hK => ?_); go_simp; (first | (go_at_call 65; refine (turn_any _ _ (by decide) _).mono ?_; rintro e w4 ⟨rfl, k4, rfl⟩)); go_simp; refine hK.out _ _ (⟨hv7, hv5, hv6, hwk, hrk⟩) ?_; clear hK K))
          refine CanL.done ?_
          go_wp2_with fail
          refine CanL.region (fun w' => w'.cell? ⟨g11, 1, none⟩ = some (.int .u32 (U (Sm.g v 1))) ∧ w'.cell? ⟨g11, 2, none⟩ = some (.int .u32 (U (Sm.g v 2)))) 1000 [(0, 2), (2, 2), (5, 2), (8, 2), (9, 2), (10, 1), (11, 2), (12, 2), (13, 2), (14, 1), (15, 2), (16, 2), (17, 2), (18, 1), (19, 2), (20, 1), (21, 2), (22, 2), (1, 0), (3, 0), (4, 2), (6, 0), (7, 2), (23, 2), (24, 2)] (by kernel_rfl) (by kernel_rfl) ⟨hv1, hv2⟩ ?_
          repeat (first | (refine CanL.skip rfl ?_ (fun K hK => ?_); (focus (go_simp; done)); go_simp; refine hK _ ?_; clear hK K) | (refine CanL.pur rfl ?_ ?_; (focus (go_simp; done)); refine ⟨?_, ?_, ?_⟩; rotate_left; (focus (intro w'; go_simp; rfl)); (focus (intro K hK; go_simp; refine hK _ ?_; clear hK K))) | (refine CanL.held rfl ?_ ?_; (focus (go_simp; done)); refine ⟨?_, ?_, ?_⟩; rotate_left; (focus (intro w' hS'; (try dsimp only at hS'); go_simp; rfl)); (focus (intro K hK; go_simp; refine hK _ ?_; clear hK K))) | (refine CanL.last rfl (fun K hK => ?_); go_simp; refine hK.out _ _ ?_; clear hK K) | (refine CanL.imp rfl (fun K hK => ?_); go_simp; (first | (go_at_call 65; refine (turn_any _ _ (by decide) _).mono ?_; rintro e w4 ⟨rfl, k4, rfl⟩)); go_simp; refine hK.out _ _ (⟨hv1, hv2⟩) ?_; clear hK K))
          refine CanL.done ?_
          go_wp2_with (refine wpList_storeW rfl 97 (.tmp 11) (.tmp 178) rfl g11 97 v (roundR v (Sm.g rt k) (Sm.g ws k)) rfl rfl (HV.out.drewN _) (by rw [Hvl.out]; rfl) (by kernel_rfl) ?_; intro w5 hV5 hg5)
          go_roundw
          case rel =>
            have hg5 := undrewN hg5
            obtain ⟨e5, e6, e7⟩ := Hg.out
            have h7 := Hlt7.out
            refine ⟨k + 1, by omega, by go_num, ?_, HX.out.grown hg5 (by simp; omega), HB3.out.grown hg5 (by simp; omega), HB5.out.grown hg5 (by simp; omega), HB6.out.grown hg5 (by simp; omega), Hbel.out.trans (below_of_only hg5 (by omega) (by rw [Hn0.out]; exact Hbel.out.size))⟩
            rw [runK_succ s ws k Hwl.out hkl, ← Hv.out, ← Hrt.out, ← roundR_eq]
            exact hV5
          case measure => simp [intOf]; omega
        · have hk64 : k = 64 := by omega
          have hv := Hv.out
          rw [hk64, runK_all s ws Hwl.out, Hws.out] at hv
          have Hv2 := Lib.hid hv
          clear hk64 hv hk hvl
          go_wp2
          go_loopw [17] (fun i wx => ∃ k : Nat, k ≤ 8 ∧ i = .int .i64 k ∧ BlkW wx g11 97 v ∧ BlkW wx n0 97 (upd s v k) ∧ BlkW wx g6 97 (List.replicate 8 0) ∧ Below n0 w wx) (fun i _ => 8 - (intOf i).toNat)
          case atStart => exact ⟨0, Nat.zero_le _, rfl, HV.out, by rw [upd_0 s v Hs.out]; exact HB3.out, HB6.out, Hbel.out⟩
          case round =>
            obtain ⟨i, hi, rfl, hV, hB3, hB6, hbel⟩ := hrel
            by_cases hil : i < 8
            · have hvi := hV.cell i (by rw [Hvl.out]; exact hil)
              have hsi := hB3.cell i (by rw [upd_len]; exact hil)
              rw [upd_at s v i i hil, if_neg (by omega)] at hsi
              have hfi := hB3.frozen i
              have HV := Lib.hid hV
              have HB3 := Lib.hid hB3
              have HB6 := Lib.hid hB6
              have Hbel := Lib.hid hbel
              clear hV hB3 hB6 hbel
              go_wp2_with fail
              go_region
              go_wp2
              go_roundw
              case rel =>
                obtain ⟨e5, e6, e7⟩ := Hg.out
                have h7 := Hlt7.out
                refine ⟨i + 1, by omega, by go_num, (HV.out.far (by simp; omega) _).drew, ?_, (HB6.out.far (by simp; omega) _).drew, (Hbel.out.setCell (by simp) _).drew⟩
                have := HB3.out.set_ i (Sm.g s i + Sm.g v i)
                rw [upd_set s v i hil] at this
                exact this
              case measure => simp [intOf]; omega
            · have hi8 : i = 8 := by omega
              rw [hi8, Hv2.out, upd_8] at hB3
              obtain ⟨bl, hbl⟩ : ∃ bl, bl = block s b := ⟨_, rfl⟩
              have hbll : bl.length = 8 := by rw [hbl]; exact block_len s b
              rw [← hbl] at hB3
              have Hbl := Lib.hid hbl
              have Hbll := Lib.hid hbll
              have HB3 := Lib.hid hB3
              have HB6 := Lib.hid hB6
              have Hbel := Lib.hid hbel
              clear hV hB3 hB6 hbel hi8 hi hbl hbll
              go_wp2_with (first
                | (refine wpList_loadW rfl 97 (.tmp 3) rfl n0 97 bl rfl HB3.out _ Tryd.underlying97 rfl (by rw [Hbll.out]; kernel_rfl) ?_)
                | (refine wpList_storeW rfl 97 (.tmp 6) (.tmp 191) rfl g6 97 (List.replicate 8 0) bl rfl rfl HB6.out (by rw [Hbll.out]; rfl) (by rw [Hbll.out]; kernel_rfl) ?_; intro w9 hR9 hg9))
              refine bodyPost_ret (results_cell_row (p := 6) (ty := 97) (by kernel_rfl) _ w9 g6 97 (wvs bl).toArray (0, 0) _ rfl hR9 Tryd.underlying97 rfl (by rw [List.size_toArray, wvs_len, Hbll.out]; kernel_rfl)) rfl ⟨by rw [Hbl.out], ?_⟩
              obtain ⟨e5, e6, e7⟩ := Hg.out
              have hbel2 := Hbel.out.trans (below_of_only hg9 (by omega) (by rw [Hn0.out]; exact Hbel.out.size))
              rw [Hn0.out] at hbel2
              exact hbel2
end Sm
end Go.Proofs.YtcbkhbnemhkheaaDoor
/- A whole array is read in a region that draws its order. -/
namespace Go.Proofs.YtcbkhbnemhkheaaDoor
namespace CanL
open Go.RowKit Ba Sm
set_option linter.unusedVariables false
theorem heldW {P : Program} {ops : Array Oper} {Q : Exit → Act → World → Prop} {F : World → Prop} {k i : Nat} {rest : List (Nat × Nat)} {o : Oper} {a : Act} {w : World} (hi : ops[i]? = some o) (hg : Region.wanted o (yielded ops a.tmps) = true)
    (ty : TypeId) (x : Operand) (ho : o.op = .load ty x) (g : Nat) (t : TypeId) (l : List UInt32) (hx : a.eval x = .pointer (some ⟨g, 0, none⟩)) (hF : ∀ w', F w' → BlkW w' g t l) (d : TypeDesc) (hu : P.underlying ty = some d) (hd : d.isRow = true)
    (hs : (P.info? ty).map (·.size) = some l.length) (h : ∀ K : Act → Prop, (∀ a, wpCan P ops Q F k rest a w → K a) → K (a.put o.dst (.agg (wvs l).toArray))) : wpCan P ops Q F k ((i, 1) :: rest) a w := by
  refine held hi hg ⟨.agg (wvs l).toArray, fun w' hF' => ?_, h⟩
  have hb := hF w' hF'
  have hr : w'.rangeAt g 0 (wvs l) := Blk.range [] (wvs l) [] (by unfold BlkW at hb; simpa using hb)
  unfold execOp
  simp only [ho, hx, Instr.loadAt, Instr.sureAddr, Sem.run_bind, Sem.run_pure, Result.andThen_ok, run_loadVar_mid w' g 0 ty (wvs l) d hr hu hd (by rw [wvs_len]; exact hs)]
theorem lastW {P : Program} {ops : Array Oper} {Q : Exit → Act → World → Prop} {F : World → Prop} {k : Nat} {rest : List (Nat × Nat)} {o : Oper} {a : Act} {w : World} (hi : ops[k]? = some o) (hg : Region.wanted o (yielded ops a.tmps) = true)
    (ty : TypeId) (x y : Operand) (ho : o.op = .store ty x y) (g : Nat) (t : TypeId) (l0 l : List UInt32) (hx : a.eval x = .pointer (some ⟨g, 0, none⟩)) (hy : a.eval y = .agg (wvs l).toArray) (hb : BlkW w g t l0) (hl : l0.length = l.length)
    (hs : (P.info? ty).map (·.size) = some l.length) (h : ∀ w', BlkW w' g t l → w.grownBy w' (some g) → wpCan P ops Q F k rest (a.put o.dst undef) w') : wpCan P ops Q F k ((k, 0) :: rest) a w := by
  refine last hi (fun K hK => ?_)
  rw [if_pos hg]
  have hb' : Blk w g t ([] ++ (wvs l0 ++ [])).toArray := by unfold BlkW at hb; simpa using hb
  refine wp_store_mid ty x y ho g 0 (wvs l).toArray hx hy ?_ (by rw [List.size_toArray, wvs_len]; exact hs) (all_oneCell_toArray (wvs_one l)) (hK.out _ _ (h _ ?_ (only_setCells _ _ _ _)))
  · refine Blk.there hb' 0 _ ?_
    simp [wvs_len, hl]
  · have := Blk.setCells (wvs l) [] (wvs l0) [] hb' (by rw [wvs_len, wvs_len]; exact hl)
    unfold BlkW
    simpa using this
end CanL
end Go.Proofs.YtcbkhbnemhkheaaDoor
/- The sum, of the document's answer. -/
namespace Go.Proofs.YtcbkhbnemhkheaaDoor
namespace Sm
open Go.RowKit Ba
set_option linter.unusedVariables false
attribute [local go_sem] U_add U_add' U_xor U_and U_or U_of_u8
theorem shr8 (n m : Nat) : (8 : Int) * (n : Int) / (2 : Int) ^ (8 * m) % 256 = ((UInt8.ofNat (8 * n / 2 ^ (8 * m))).toNat : Int) := by
  rw [UInt8.toNat_ofNat']
  have e : ((2 : Int) ^ (8 * m)) = ((2 ^ (8 * m) : Nat) : Int) := by rw [Int.natCast_pow]; rfl
  rw [e]
  generalize 2 ^ (8 * m) = m
  have e2 : (8 * (n : Int)) / (m : Int) = ((8 * n / m : Nat) : Int) := by rw [Int.natCast_ediv]; rfl
  rw [e2]
  omega
set_option maxRecDepth 100000 in
set_option maxHeartbeats 2000000 in
theorem rof_calls (l : List UInt8) (A : Option Addr) (c : Nat) (w : World) (hr : ReadB w w.heap.size A l) (hlc : l.length ≤ c) (hll : l.length ≤ 140737488351232) :
    Calls Tryd.prog 30 #[.slice A l.length c] w fun e w' => e = .returned (.agg (bvs (sha l)).toArray) ∧ Below w.heap.size w w' := by
  obtain ⟨i0, hi0⟩ := isByte_of info5
  have Hi := Lib.hid hi0
  have Hr := Lib.hid hr
  clear hi0 hr
  go_enter Tryd.func30, Tryd.ntmps30
  go_wp2_with fail
  refine (rfirst_calls _).mono ?_
  rintro e w1 ⟨rfl, hb1⟩
  have hs0 : ∀ o, (w.alloc o).heap.size = w.heap.size + 1 := fun o => by simp
  rw [hs0] at hb1
  have hbw : Below w.heap.size w w1 := ((Below.refl _ _).alloc (Nat.le_refl _) _).trans (hb1.mono (by omega))
  have hR : Blk w1 w.heap.size 47 (bvs (List.replicate 32 0)).toArray := Blk.below (by rw [bvs_rep32]; exact heap_alloc_new _ _) hb1 (by omega)
  have Hbw := Lib.hid hbw
  have HR := Lib.hid hR
  clear hbw hR hs0 hb1
  generalize hf : first = fs
  have hfl : fs.length = 8 := by rw [← hf]; rfl
  have Hf := Lib.hid hf
  have Hfl := Lib.hid hfl
  clear hf hfl
  go_wp2_with (first
    | (refine wpList_storeW rfl 97 (.tmp 3) (.tmp 11) rfl w1.heap.size 97 (List.replicate 8 0) fs rfl rfl (BlkW.new_ _ _ _ _ _ (by rfl) (by rfl)) (by rw [Hfl.out]; rfl) (by rw [Hfl.out]; kernel_rfl) ?_; intro w2 hS2 hg2; have HS2 := Lib.hid hS2; have HR2 := Lib.hid (Blk.grown (Blk.alloc HR.out _) hg2 (by simp; have := HR.out.lt; omega)); have Hb2 := Lib.hid (Hbw.out.trans ((only_after ((Below.refl _ _).alloc (Nat.le_refl _) _) hg2 (Nat.le_refl _)).mono Hbw.out.size)); have Hr2 := Lib.hid (Hr.out.below Hb2.out); clear hS2 hg2)
    | (at_builtin; (refine wpList_appB _ rfl (.tmp 12) (.tmp 13) 22 rfl w2.heap.size 5 i0 Tryd.underlying22 Hi.out _ [] rfl (OwnB.lit0 w2 5 w2.heap.size w2.heap.size rfl (Nat.le_refl _)) w.heap.size A _ c l rfl rfl (Hr2.out.alloc Hb2.out.size _) (by simp; omega) (by simp) ?_); intro v3 w3 ho3 _ _ hb3; rw [List.nil_append] at ho3; have Ho3 := Lib.hid ho3; have Hb3 := Lib.hid (((Below.refl w2.heap.size w2).alloc (Nat.le_refl _) _).trans hb3); clear ho3 hb3)
    | (at_builtin; (refine wpList_appB _ rfl (.tmp 14) (.tmp 15) 22 rfl w2.heap.size 5 i0 Tryd.underlying22 Hi.out v3 l rfl (Ho3.out.alloc _) _ _ _ 1 [128] rfl rfl (ReadB.lit1 _ _ 128 128 rfl) (by simp; omega) (by have := Hb3.out.size; simp; omega) ?_); intro v5 w5 ho5 _ _ hb5; have Ho5 := Lib.hid ho5; have Hb5 := Lib.hid ((Hb3.out.alloc Hb3.out.size _).trans hb5); clear ho5 hb5))
  clear Ho3 Hb3
  obtain ⟨n, hn⟩ : ∃ n, n = l.length := ⟨_, rfl⟩
  have hnm : n ≤ 140737488351232 := by rw [hn]; exact hll
  have Hn := Lib.hid hn
  clear hn
  have hz := zeros_lt n
  have Hz := Lib.hid hz
  clear hz
  go_loopg [4] (zeros n) (fun m v wr => ∃ j : Nat, j ≤ zeros n ∧ m = zeros n - j ∧ OwnB wr w2.heap.size 5 v (l ++ 128 :: List.replicate j 0) ∧ Below w2.heap.size w2 wr)
  case atStart => exact ⟨0, Nat.zero_le _, rfl, Ho5.out, Hb5.out⟩
  case round =>
    obtain ⟨j, hj, hm, ho, hb⟩ := hrel
    obtain ⟨q, hq⟩ : ∃ q, q = l ++ 128 :: List.replicate j 0 := ⟨_, rfl⟩
    rw [← hq] at ho
    have hql : q.length = n + 1 + j := by rw [hq, List.length_append, ← Hn.out]; simp; omega
    have Hq := Lib.hid hq
    have Hm := Lib.hid hm
    obtain ⟨A5, c5, rfl, p1, p2, p3, p4⟩ := ho.opens
    have Ho := Lib.hid ho
    have Hb := Lib.hid hb
    have Hql := Lib.hid hql
    have hlt : q.length < 140737488351332 := by have := Hz.out; omega
    clear p3 p4 hb ho hm hq
    by_cases hjz : j < zeros n
    · have t1 : ((q.length : Int) % 64 == 56) = false := by
        have : ¬ (q.length : Int) % 64 = 56 := by unfold zeros at hjz; omega
        simpa using this
      have t2 : ((q.length : Int) % 64 != 56) = true := by rw [bne, t1]; rfl
      clear hql
      go_wp2_with ((at_builtin; go_loud (refine wpList_appB _ rfl (.tmp 21) (.tmp 22) 22 rfl w2.heap.size 5 i0 Tryd.underlying22 Hi.out _ q rfl (Ho.out.alloc _) _ _ _ 1 [0] rfl rfl (ReadB.lit1 _ _ 0 0 rfl) (by simp; omega) (by have := Hb.out.size; simp; omega) ?_); intro v6 w6 ho6 _ _ hb6; have Ho6 := Lib.hid ho6; have Hb6 := Lib.hid ((Hb.out.alloc Hb.out.size _).trans hb6); clear ho6 hb6))
      go_roundg (zeros n - (j + 1))
      case rel =>
        refine ⟨j + 1, by omega, rfl, ?_, Hb6.out⟩
        have e : l ++ 128 :: List.replicate (j + 1) 0 = q ++ [0] := by rw [Hq.out, List.replicate_succ']; simp
        rw [e]
        exact Ho6.out
      case measure => have := Hm.out; omega
    · have hjz2 : j = zeros n := by omega
      have t1 : ((q.length : Int) % 64 == 56) = true := by
        have : (q.length : Int) % 64 = 56 := by unfold zeros at hjz2; omega
        simpa using this
      have t2 : ((q.length : Int) % 64 != 56) = false := by rw [bne, t1]; rfl
      have hq2 := Hq.out
      rw [hjz2] at hq2
      have Hq2 := Lib.hid hq2
      clear hql hjz hjz2 hq2
      have hn0 : (l.length : Int) = (n : Int) := by rw [Hn.out]
      rw [← Hn.out]
      clear hn0
      go_wp2
      clear t1 t2
      go_loopw [4, 6] (fun v i wx => ∃ k : Nat, k ≤ 8 ∧ i = .int .i64 (7 - (k : Int)) ∧ OwnB wx w2.heap.size 5 v (q ++ (bytes8 (8 * n)).take k) ∧ Below w2.heap.size w2 wx) (fun _ i _ => (intOf i + 1).toNat)
      case atStart => exact ⟨0, Nat.zero_le _, rfl, by rw [List.take_zero, List.append_nil]; exact Ho.out, Hb.out⟩
      case round =>
        obtain ⟨k, hk, rfl, ho, hb⟩ := hrel
        obtain ⟨p, hp⟩ : ∃ p, p = q ++ (bytes8 (8 * n)).take k := ⟨_, rfl⟩
        rw [← hp] at ho
        have Hp := Lib.hid hp
        have hpl : p.length ≤ 140737488351400 := by rw [hp, List.length_append, List.length_take]; omega
        clear hp
        obtain ⟨A7, c7, rfl, p5, p6, p7, p8⟩ := ho.opens
        have Ho7 := Lib.hid ho
        have Hb7 := Lib.hid hb
        clear p7 p8 hb ho
        by_cases hk8 : k < 8
        · obtain ⟨m, hm⟩ : ∃ m : Nat, m + k = 7 := ⟨7 - k, by omega⟩
          rw [show (7 - (k : Int)) = (m : Int) by omega]
          have hu8 := shr8 n m
          generalize hz : UInt8.ofNat (8 * n / 2 ^ (8 * m)) = z at hu8
          have Hz8 := Lib.hid hz
          clear hz
          have Hmk := Lib.hid hm
          have hm7 : m ≤ 7 := by omega
          clear hm hk8
          go_wp2_with ((at_builtin; go_loud (refine wpList_appB _ rfl (.tmp 32) (.tmp 38) 22 rfl w2.heap.size 5 i0 Tryd.underlying22 Hi.out _ p rfl (Ho7.out.alloc _) _ _ _ 1 [z] rfl rfl (ReadB.lit1 _ _ _ _ (by first | rfl | exact hu8)) (by simp; omega) (by have := Hb7.out.size; simp; omega) ?_); intro v8 w8 ho8 _ _ hb8; have Ho8 := Lib.hid ho8; have Hb8 := Lib.hid ((Hb7.out.alloc Hb7.out.size _).trans hb8); clear ho8 hb8))
          have hmk := Hmk.out
          go_roundw
          case rel =>
            refine ⟨k + 1, by omega, by rw [show ((m : Int) - 1) = 7 - ((k + 1 : Nat) : Int) by omega], ?_, Hb8.out⟩
            rw [bytes8_succ _ _ (by omega), ← List.append_assoc, ← Hp.out, show 56 - 8 * k = 8 * m by omega, Hz8.out]
            exact Ho8.out
          case measure => first | (simp [intOf]; done) | (simp [intOf]; omega)
        · have hk8' : k = 8 := by omega
          obtain ⟨P, hP⟩ : ∃ P, P = l ++ pad n := ⟨_, rfl⟩
          have hpP : p = P := by
            rw [Hp.out, hk8', Hq2.out, hP, pad_eq, List.append_assoc]
            rfl
          rw [hpP] at Ho7 p5 hpl ⊢
          have hPl : P.length % 64 = 0 := by
            rw [hP, List.length_append, pad_len, Hn.out]
            exact zeros_mod _
          have hT7 : ReadT wr 5 A7 P := ReadT.of_own Ho7.out
          have HP := Lib.hid hP
          have HPl := Lib.hid hPl
          have HT7 := Lib.hid hT7
          clear hP hPl hT7 Ho7 hpP Hp
          go_wp2_with fail
          refine (rwords_calls _).mono ?_
          rintro e w9 ⟨rfl, hb9⟩
          have Hb9 := Lib.hid ((Hb7.out).trans (hb9.mono Hb7.out.size))
          have HT9 := Lib.hid (HT7.out.below hb9)
          clear hb9
          generalize hrt : rounds = rt
          have hrtl : rt.length = 64 := by rw [← hrt]; rfl
          have Hrt := Lib.hid hrt
          have Hrtl := Lib.hid hrtl
          clear hrt hrtl
          go_wp2_with (refine wpList_storeW rfl 100 (.tmp 7) (.tmp 40) rfl w9.heap.size 100 (List.replicate 64 0) rt rfl rfl (BlkW.new_ _ _ _ _ _ (by rfl) (by rfl)) (by rw [Hrtl.out]; rfl) (by rw [Hrtl.out]; kernel_rfl) ?_; intro w10 hK10 hg10)
          have hlt3 := HS2.out.lt
          have q3 := BlkW.grown (BlkW.alloc (HS2.out.below Hb9.out hlt3) (.cells (wvs (List.replicate 64 0)).toArray 100)) hg10 (by have := Hb9.out.size; simp; omega)
          have q2 := Blk.grown (Blk.alloc (HR2.out.below Hb9.out HR2.out.lt) (.cells (wvs (List.replicate 64 0)).toArray 100)) hg10 (by have := Hb9.out.size; have := HR2.out.lt; simp; omega)
          have qT : ReadT w10 5 A7 P := (HT9.out.below ((Below.refl _ _).alloc (Nat.le_refl _) (.cells (wvs (List.replicate 64 0)).toArray 100))).grown hg10 (heap_alloc_new _ _) (by decide)
          have qb : Below w.heap.size w w10 := ((Hb2.out.trans (Hb9.out.mono Hb2.out.size)).alloc (by have := Hb9.out.size; have := Hb2.out.size; omega) (.cells (wvs (List.replicate 64 0)).toArray 100)).trans (below_of_only hg10 (by have := Hb9.out.size; have := Hb2.out.size; omega) (by have := Hb9.out.size; have := Hb2.out.size; simp; omega))
          have hg37 : w1.heap.size < w9.heap.size := Nat.lt_of_lt_of_le hlt3 Hb9.out.size
          have hg03 : w.heap.size < w1.heap.size := HR.out.lt
          clear hg10
          generalize hg3 : w1.heap.size = g3 at *
          generalize hg7 : w9.heap.size = g7 at *
          have Hq3 := Lib.hid q3
          have Hq2' := Lib.hid q2
          have HqT := Lib.hid qT
          have Hqb := Lib.hid qb
          have HK := Lib.hid hK10
          have Hg37 := Lib.hid hg37
          have Hg03 := Lib.hid hg03
          clear q3 q2 qT qb hK10 hlt3 hg3 hg7 hg37 hg03
          go_loopw [8] (fun i wx => ∃ j q : Nat, q = 64 * j ∧ q ≤ P.length ∧ i = .int .i64 q ∧ BlkW wx g3 97 (stk P j) ∧ BlkW wx g7 100 rt ∧ ReadT wx 5 A7 P ∧ Blk wx w.heap.size 47 (bvs (List.replicate 32 0)).toArray ∧ Below w.heap.size w wx) (fun i _ => P.length - (intOf i).toNat)
          case atStart => exact ⟨0, 0, rfl, Nat.zero_le _, rfl, by rw [show stk P 0 = first from rfl, Hf.out]; exact Hq3.out, HK.out, HqT.out, Hq2'.out, Hqb.out⟩
          case round =>
            obtain ⟨j, q, hqj, hq, rfl, hS, hK, hT, hR2, hbel⟩ := hrel
            have HS := Lib.hid hS
            have HK := Lib.hid hK
            have HT := Lib.hid hT
            have HR2 := Lib.hid hR2
            have Hbel := Lib.hid hbel
            have Hqj := Lib.hid hqj
            clear hS hK hT hR2 hbel hqj
            by_cases hlt : q < P.length
            · have h64 : q + 64 ≤ P.length := by have := HPl.out; have := Hqj.out; omega
              obtain ⟨b5, o5, cs5, rfl, hb5, hc5⟩ := HT.out (by omega)
              clear hb5 hc5
              obtain ⟨S, hS⟩ : ∃ S, S = stk P j := ⟨_, rfl⟩
              have hSl : S.length = 8 := by rw [hS]; exact stk_len _ _
              have HSS := Lib.hid hS
              have HSl := Lib.hid hSl
              have HS1 : Hid (BlkW wr g3 97 S) := Lib.hid (by rw [hS]; exact HS.out)
              clear hS hSl
              have hblk : Calls Tryd.prog 52 #[.agg (wvs S).toArray, .slice (some ⟨b5, o5 + q, none⟩) 64 (c7 - q), .agg (wvs rt).toArray] wr.drew
                  fun e w' => e = .returned (.agg (wvs (stk P (j + 1))).toArray) ∧ Below wr.heap.size wr w' := by
                have hrd : ReadB wr.drew wr.drew.heap.size (some ⟨b5, o5 + q, none⟩) ((P.drop q).take 64) := (HT.out.readB.drop q).take 64
                rw [← Hrt.out]
                refine (rblock_calls S HSl.out ((P.drop q).take 64) (by rw [List.length_take, List.length_drop]; omega) _ _ wr.drew hrd).mono ?_
                rintro e w' ⟨h1, h2⟩
                have hd : Below wr.heap.size wr wr.drew := (Below.refl _ _).drew
                refine ⟨?_, hd.trans h2⟩
                rw [h1, HSS.out, Hqj.out]
                rfl
              have Hblk := Lib.hid hblk
              clear hblk
              have a0 : (0 : Int) ≤ (q : Int) := by omega
              have a1 : (q : Int) < (P.length : Int) := by omega
              have a2 : (q : Int) + 64 ≤ (P.length : Int) := by omega
              have a3 : ((q : Int) + 64).toNat = q + 64 := by omega
              have a4 : (0 : Int) ≤ (q : Int) + 64 := by omega
              have a5 : (q : Int) + 64 ≤ (c7 : Int) := by omega
              have a6 : (q : Int) ≤ (q : Int) + 64 := by omega
              have a7 : ¬ (c7 = q) := by omega
              have a8 : IntKind.i64.wrap ((q : Int) + 64) = (q : Int) + 64 := IntWalk.i64_in _ (by omega)
              go_wp2_with fail
              refine CanL.region (fun w' => BlkW w' g3 97 S ∧ BlkW w' g7 100 rt) 8 [(0, 1), (1, 2), (2, 2), (3, 2), (4, 2), (5, 2), (6, 1), (7, 0), (8, 0)] (by kernel_rfl) (by kernel_rfl) ⟨HS1.out, HK.out⟩ ?_
              refine CanL.heldW rfl ?_ 97 (.tmp 3) rfl g3 97 S rfl (fun w' h => h.1) _ Tryd.underlying97 rfl (by rw [HSl.out]; kernel_rfl) (fun K hK => ?_)
              · go_simp
              · go_simp
                refine hK _ ?_
                clear hK K
                iterate 5 (first | (refine CanL.pur rfl ?_ ?_; (focus (go_simp; done)); refine ⟨?_, ?_, ?_⟩; rotate_left; (focus (intro w'; go_simp; rfl)); (focus (intro K hK; go_simp; refine hK _ ?_; clear hK K))))
                refine CanL.heldW rfl ?_ 100 (.tmp 7) rfl g7 100 rt rfl (fun w' h => h.2) _ Tryd.underlying100 rfl (by rw [Hrtl.out]; kernel_rfl) (fun K hK => ?_)
                · go_simp
                · go_simp
                  refine hK _ ?_
                  clear hK K
                  refine CanL.imp rfl (fun K hK => ?_)
                  go_simp
                  refine Hblk.out.mono ?_
                  rintro e w11 ⟨rfl, hb11⟩
                  go_simp
                  refine hK.out _ _ ⟨HS1.out.below hb11 HS1.out.lt, HK.out.below hb11 HK.out.lt⟩ ?_
                  clear hK K
                  have hsl : (stk P (j + 1)).length = 8 := stk_len _ _
                  obtain ⟨S', hS'⟩ : ∃ S', S' = stk P (j + 1) := ⟨_, rfl⟩
                  rw [← hS'] at hsl ⊢
                  have HSl' := Lib.hid hsl
                  have HSS' := Lib.hid hS'
                  clear hsl hS'
                  refine CanL.lastW rfl ?_ 97 (.tmp 3) (.tmp 54) rfl g3 97 S S' rfl rfl (HS1.out.below hb11 HS1.out.lt) (by rw [HSl.out, HSl'.out]) (by rw [HSl'.out]; kernel_rfl) ?_
                  · go_simp
                  · intro w12 hS12 hg12
                    have hg12' : wr.grownBy w12 (some g3) := only_trans (only_of_below hb11 _) hg12
                    refine CanL.done ?_
                    have hK12 := HK.out.grown hg12' (by have := Hg37.out; simp; omega)
                    have hT12 := HT.out.grown hg12' HS1.out (by decide)
                    have hR12 := HR2.out.grown hg12' (by have := Hg03.out; simp; omega)
                    have hb12 := Hbel.out.trans (below_of_only hg12' (by have := Hg03.out; omega) Hbel.out.size)
                    have HK12 := Lib.hid hK12
                    have HT12 := Lib.hid hT12
                    have HR12 := Lib.hid hR12
                    have Hb12 := Lib.hid hb12
                    have HS12 := Lib.hid hS12
                    clear hK12 hT12 hR12 hb12 hS12 hg12 hg12' hb11 a0 a1 a2 a3 a4 a5 a6 a7 a8
                    go_wp2
                    go_roundw
                    case rel => exact ⟨j + 1, q + 64, by have := Hqj.out; omega, h64, by go_num, by rw [← HSS'.out]; exact HS12.out, HK12.out, HT12.out, HR12.out, Hb12.out⟩
                    case measure => simp [intOf]; omega
            · have hqP : j = P.length / 64 := by have := HPl.out; have := Hqj.out; omega
              have hS8 := HS.out
              rw [hqP] at hS8
              have e : stk P (P.length / 64) = st P := rfl
              rw [e] at hS8
              have hsl : (st P).length = 8 := stk_len _ _
              have ho : out (st P) = sha l := by rw [HP.out, Hn.out]; rfl
              obtain ⟨S, hSS⟩ : ∃ S, S = st P := ⟨_, rfl⟩
              rw [← hSS] at hS8 hsl ho
              have Ho := Lib.hid ho
              have HS8 := Lib.hid hS8
              have Hsl := Lib.hid hsl
              clear ho hS8 hsl hSS hqP e
              have hR3 : Blk (wr.alloc (.cells (bvs (List.replicate 32 0)).toArray 47)) wr.heap.size 47 (bvs (List.replicate 32 0)).toArray := heap_alloc_new _ _
              rw [← bvs_rep32] at hR3
              have HR3' := Lib.hid hR3
              have hltS := HS8.out.lt
              have hltR := HR2.out.lt
              have HltS := Lib.hid hltS
              have HltR := Lib.hid hltR
              clear hR3 hltS hltR
              go_wp2
              have hS9 := HS8.out.alloc (.cells (bvs (List.replicate 32 0)).toArray 47)
              have hR9 := HR2.out.alloc (.cells (bvs (List.replicate 32 0)).toArray 47)
              have hb9 := Hbel.out.alloc (Nat.le_of_lt HltR.out) (.cells (bvs (List.replicate 32 0)).toArray 47)
              rw [← bvs_rep32] at hS9 hR9 hb9
              have hR9' := HR3'.out
              generalize wr.alloc (.cells #[Value.int .u8 0, .int .u8 0, .int .u8 0, .int .u8 0, .int .u8 0, .int .u8 0, .int .u8 0, .int .u8 0, .int .u8 0, .int .u8 0, .int .u8 0, .int .u8 0, .int .u8 0, .int .u8 0, .int .u8 0, .int .u8 0, .int .u8 0, .int .u8 0, .int .u8 0, .int .u8 0, .int .u8 0, .int .u8 0, .int .u8 0, .int .u8 0, .int .u8 0, .int .u8 0, .int .u8 0, .int .u8 0, .int .u8 0, .int .u8 0, .int .u8 0, .int .u8 0] 47) = wL at hS9 hR9 hb9 hR9' ⊢
              rw [bvs_rep32] at hR9 hR9'
              generalize hg9 : wr.heap.size = g9 at hR9' HltS HltR ⊢
              have HS9 := Lib.hid hS9
              have HR9 := Lib.hid hR9
              have Hb9 := Lib.hid hb9
              have HR9' := Lib.hid hR9'
              clear hS9 hR9 hb9 hR9' HR3' hg9
              go_loopw [10] (fun i wx => ∃ k : Nat, k ≤ 32 ∧ i = .int .i64 k ∧ Blk wx g9 47 (bvs (oo S k)).toArray ∧ BlkW wx g3 97 S ∧ Blk wx w.heap.size 47 (bvs (List.replicate 32 0)).toArray ∧ Below w.heap.size w wx) (fun i _ => 32 - (intOf i).toNat)
              case atStart => exact ⟨0, Nat.zero_le _, rfl, HR9'.out, HS9.out, HR9.out, Hb9.out⟩
              case round =>
                obtain ⟨i, hi, rfl, hR3, hS8, hR2, hbw⟩ := hrel
                by_cases hil : i < 32
                · have hcs := hS8.cell (i / 4) (by rw [Hsl.out]; omega)
                  have hco := Blk.cell hR3 i
                  rw [List.getElem?_toArray, bvs_get _ _ (by rw [oo_len _ _ hi]; omega)] at hco
                  have hfo := Blk.frozen hR3 i
                  have hs4 := sh4 (Sm.g S (i / 4)) i
                  generalize hz : (Sm.g S (i / 4) >>> UInt32.ofNat (24 - 8 * (i % 4))).toUInt8 = z at hs4
                  have Hz9 := Lib.hid hz
                  clear hz
                  have HR3 := Lib.hid hR3
                  have HS8 := Lib.hid hS8
                  have HR2 := Lib.hid hR2
                  have Hbw := Lib.hid hbw
                  clear hR3 hS8 hR2 hbw
                  go_wp2
                  go_roundw
                  case rel =>
                    have u1 := HltS.out
                    have u2 := HltR.out
                    refine ⟨i + 1, by omega, by go_num, ?_, HS8.out.far (by simp; omega) _, HR2.out.far (by simp; omega) _, Hbw.out.setCell (by simp; omega) _⟩
                    have := Blk.set_ HR3.out i (.int .u8 (z.toNat : Int))
                    rw [toArray_set] at this
                    have e : (bvs (oo S i)).set i (.int .u8 (z.toNat : Int)) = bvs (oo S (i + 1)) := by
                      rw [← oo_set S i hil, Hz9.out]
                      simp [bvs, List.map_set, bv]
                    rw [e] at this
                    exact this
                  case measure => simp [intOf]; omega
                · have hi32 : i = 32 := by omega
                  rw [hi32, oo_32, Ho.out] at hR3
                  have hlo : (sha l).length = 32 := by rw [← Ho.out]; exact out_len _
                  obtain ⟨H, hH⟩ : ∃ H, H = sha l := ⟨_, rfl⟩
                  rw [← hH] at hR3 hlo
                  have HH := Lib.hid hH
                  have HR3 := Lib.hid hR3
                  have HR2 := Lib.hid hR2
                  have Hbw := Lib.hid hbw
                  have Hlo := Lib.hid hlo
                  clear hR3 hS8 hR2 hbw hi32 hi hlo hH
                  go_wp2_with (first
                    | (refine wpList_load_blk rfl 47 (.tmp 9) rfl g9 0 47 [] (bvs H) [] rfl (by simpa using HR3.out) rfl _ Tryd.underlying47 rfl (by rw [bvs_length, Hlo.out]; kernel_rfl) ?_)
                    | (refine wpList_store_blk rfl 47 (.tmp 2) (.tmp 71) rfl w.heap.size 0 47 [] (bvs (List.replicate 32 0)) [] (bvs H) rfl rfl (by simpa using HR2.out) rfl (by rw [bvs_length, bvs_length, Hlo.out]; rfl) (by rw [bvs_length, Hlo.out]; kernel_rfl) (bvs_one _) ?_; intro w9 hR9 hg9))
                  refine bodyPost_ret (results_cell_row (p := 2) (ty := 47) (by kernel_rfl) _ w9 w.heap.size 47 (bvs H).toArray (0, 0) _ rfl (by simp only [List.nil_append, List.append_nil] at hR9; exact hR9) Tryd.underlying47 rfl (by rw [List.size_toArray, bvs_length, Hlo.out]; kernel_rfl)) rfl ⟨by rw [HH.out], Hbw.out.trans (below_of_only hg9 (Nat.le_refl _) Hbw.out.size)⟩
end Sm
end Go.Proofs.YtcbkhbnemhkheaaDoor
/- Where a block is, of the document's answer. -/
namespace Go.Proofs.YtcbkhbnemhkheaaDoor
namespace Bk
open Go.RowKit Ba Sm Ro
set_option linter.unusedVariables false
theorem sgv_row {w : World} {b o : Nat} {x1 : Nat} {x2 : List UInt8} (h : w.rangeAt b o (sgv (x1, x2))) : w.cell? ⟨b, o, none⟩ = some (.int .u32 (x1 : Int)) ∧ w.rangeAt b (o + 1) (bvs x2) :=
  ⟨h 0 _ rfl, fun j u hu => by have := h (j + 1) u (by simpa [sgv] using hu); rwa [show o + (j + 1) = o + 1 + j by omega] at this⟩
theorem range_getD (n k : Nat) (hk : k < n) (d : Nat) : (List.range n).getD k d = k := by simp [List.getD, hk]
set_option maxRecDepth 100000 in
set_option maxHeartbeats 4000000 in
theorem rfind_calls (w : World) (z : Nat) (l : List Sg) (hz : z ≤ 4096) (hl : l.length ≤ 4096) (L : Option Addr) (d : Nat) (hL : ReadRow sgv 33 w w.heap.size L l) (b : List UInt8) (A : Option Addr) (c : Nat) (hr : ReadB w w.heap.size A b) (hbc : b.length ≤ c) (hbl : b.length ≤ 140737488351232) :
    Calls Tryd.prog 21 #[.int .i64 (z : Int), .slice L l.length d, .slice A b.length c] w
      fun e w' => e = .returned (.tuple #[.int .i64 (findB z l b).1, .bool (findB z l b).2]) ∧ Below w.heap.size w w' := by
  by_cases hbz : b.length = z
  · have hfb : findB z l b = tellIx z (findIx l (sgOf b)) := by unfold findB; rw [if_pos hbz]
    rw [hfb]
    obtain ⟨x1, hx1⟩ : ∃ x1, rsum b = x1 := ⟨_, rfl⟩
    obtain ⟨x2, hx2⟩ : ∃ x2, sha b = x2 := ⟨_, rfl⟩
    have hl2 : x2.length = 32 := by rw [← hx2]; exact hash_len b
    have hsum := fun w' B h => rsum_calls (w := w') (B := B) (l := b) (A := A) (n := b.length) (c := c) rfl h (by omega)
    have hof := fun w' h => rof_calls b A c w' h hbc (by omega)
    rw [hx1] at hsum
    rw [hx2] at hof
    have hsg : sgOf b = (x1, x2) := by unfold sgOf; rw [hx1, hx2]
    rw [hsg]
    obtain ⟨r, hr0⟩ : ∃ r, findIx l (x1, x2) = r := ⟨_, rfl⟩
    rw [hr0]
    obtain ⟨N, hN⟩ : ∃ N, N = l.length := ⟨_, rfl⟩
    unfold findIx at hr0
    rw [← hN] at hr0 hl ⊢
    rw [hbz] at hsum hof hbc hbl ⊢
    have Hr0 := Lib.hid hr0
    have HN := Lib.hid hN
    have Hsum := Lib.hid hsum
    have Hof := Lib.hid hof
    have Hl2 := Lib.hid hl2
    have Hr := Lib.hid hr
    have HL := Lib.hid hL
    clear hr0 hN hsum hof hl2 hr hL hsg hx1 hx2 hfb hbz
    go_enter Tryd.func21, Tryd.ntmps21
    go_wp2_with (first
      | (go_at_call 29; refine (Hsum.out _ _ Hr.out).mono ?_; rintro e w1 ⟨rfl, rfl⟩)
      | (go_at_call 30; refine (Hof.out _ Hr.out).mono ?_; rintro e w2 ⟨rfl, hb2⟩; have HB2 := Lib.hid hb2; clear hb2)
      | (refine wpList_store_blk rfl 47 (.tmp 9) (.tmp 18) rfl w2.heap.size 0 47 [] (List.replicate 32 (Value.int .u8 0)) [] (bvs x2) rfl rfl (by exact heap_alloc_new _ _) rfl (by rw [bvs_length, Hl2.out]; rfl) (by rw [bvs_length, Hl2.out]; kernel_rfl) (bvs_one _) ?_; intro w3 hS3 hg3))
    have hb3 : Below w2.heap.size w2 w3 := only_after ((Below.refl _ _).alloc (Nat.le_refl _) _) hg3 (Nat.le_refl _)
    have HS3 : Hid (Blk w3 w2.heap.size 47 (bvs x2).toArray) := Lib.hid (by simpa using hS3)
    have HB3 := Lib.hid (HB2.out.trans (hb3.mono HB2.out.size))
    have HL3 : Hid (ReadRow sgv 33 w3 w.heap.size L l) := Lib.hid (HL.out.below HB3.out)
    generalize w2.heap.size = gh at *
    clear hS3 hg3 hb3 HB2 Hsum Hof
    go_loopg [10] N (fun q v10 wr => ∃ k : Nat, k ≤ N ∧ q = N - k ∧ v10 = .int .i64 (k : Int) ∧ ((List.range N).take k).find? (fun i => sg l i == (x1, x2)) = none ∧ Below w3.heap.size w3 wr)
    case atStart => exact ⟨0, by omega, rfl, rfl, by simp, Below.refl _ _⟩
    case round =>
      obtain ⟨k, hk, hq, rfl, hf, hB⟩ := hrel
      have Hq := Lib.hid hq
      have Hf := Lib.hid hf
      have HB := Lib.hid hB
      clear hq hf hB
      by_cases hkn : k < N
      · have t1 : decide ((k : Int) < (N : Int)) = true := by rw [decide_eq_true_eq]; omega
        have hkl : k < l.length := by rw [← HN.out]; exact hkn
        obtain ⟨b1, o1, rfl, hb1, hc1⟩ := HL3.out.at_ (sg_get hkl)
        have hy1 := rw_len HL3.out.1 hkl
        obtain ⟨y1, y2, hy⟩ : ∃ y1 y2, sg l k = (y1, y2) := ⟨_, _, rfl⟩
        rw [hy] at hc1 hy1
        obtain ⟨hca, hcb⟩ := sgv_row hc1
        have hB3s := Nat.lt_of_lt_of_le hb1 HB3.out.size
        have HCa : Hid (wr.drew.cell? ⟨b1, o1 + k * 33, none⟩ = some (.int .u32 (y1 : Int))) := Lib.hid ((HB.out.cell (p := ⟨b1, o1 + k * 33, none⟩) hB3s).trans hca)
        have HCb : Hid (wr.drew.rangeAt b1 (o1 + k * 33 + 1) (bvs y2)) := Lib.hid fun j u hu => (HB.out.cell (p := ⟨b1, o1 + k * 33 + 1 + j, none⟩) hB3s).trans (hcb j u hu)
        have HSr : Hid (wr.drew.rangeAt gh 0 (bvs x2)) := Lib.hid (show wr.rangeAt gh 0 (bvs x2) from Blk.range [] (bvs x2) [] (by rw [List.append_nil, List.nil_append]; exact HS3.out.below HB.out HS3.out.lt))
        have Hgr : Hid (gh < wr.drew.heap.size) := Lib.hid (Nat.lt_of_lt_of_le HS3.out.lt HB.out.size)
        have Hb1 : Hid (b1 < wr.drew.heap.size) := Lib.hid (Nat.lt_of_lt_of_le hB3s HB.out.size)
        have HL1 : Hid (y2.length = 32) := Lib.hid hy1
        obtain ⟨ew, hew⟩ : ∃ ew, ew = decide (y1 = x1) := ⟨_, rfl⟩
        have hwe : ((y1 : Int) == (x1 : Int)) = ew := by
          rw [hew, Bool.eq_iff_iff, beq_iff_eq, decide_eq_true_eq]
          omega
        have hwe2 : decide ((y1 : Int) = (x1 : Int)) = ew := by
          rw [hew, Bool.eq_iff_iff, decide_eq_true_eq, decide_eq_true_eq]
          omega
        obtain ⟨eb, heb⟩ : ∃ eb, eb = (y2 == x2) := ⟨_, rfl⟩
        have heq : ∀ w', (binOp .eql 47 (.agg (bvs y2).toArray) (.agg (bvs x2).toArray)).run Tryd.prog w' = .ok (.bool eb) w' := fun w' => by rw [heb]; exact run_eqB y2 x2 HL1.out Hl2.out w'
        have hkz : (k : Int) * (z : Int) = ((k * z : Nat) : Int) := by rw [Int.natCast_mul]
        have hzk : (z : Int) * (k : Int) = ((k * z : Nat) : Int) := by rw [Int.natCast_mul, Int.mul_comm]
        have hkz2 : k * z ≤ 16777216 := Nat.mul_le_mul (show k ≤ 4096 by omega) hz
        obtain ⟨m, hm⟩ : ∃ m, m = k * z := ⟨_, rfl⟩
        rw [← hm] at hzk hkz2
        have hmw : IntKind.i64.wrap (m : Int) = (m : Int) := by rw [IntKind.wrap_i64]; omega
        have hres : (sg l k == (x1, x2)) = (ew && eb) := by
          rw [hy, hew, heb, Bool.eq_iff_iff]
          simp [Prod.ext_iff]
        have Hres := Lib.hid hres
        have Hm := Lib.hid hm
        clear hc1 hb1 hy1 hca hcb hB3s hy hew heb hkz hm hres hkl
        cases ew with
        | true =>
          cases eb with
          | true =>
            go_wp2_with fail
            refine CanB.region 1000 (.op 0 2 (.op 1 2 (.op 2 2 (.op 3 2 (.op 4 1 (.op 5 2 (.op 6 2 (.op 7 2 (.op 8 2 (.op 9 2 (.op 10 2 (.op 11 2 (.op 12 1 (.op 13 1 (.op 14 2 (.op 15 2 (.nil))))))))))))))))) (by kernel_rfl) (by kernel_rfl) ?_
            repeat (first | (refine CanT.skip rfl ?_ (fun K hK => ?_); (focus (go_simp; done)); go_simp; refine hK _ ?_; clear hK K) | (refine CanT.pur rfl ?_ ?_; (focus (go_simp; done)); refine ⟨?_, ?_, ?_⟩; rotate_left; (focus (intro w'; go_simp; rfl)); (focus (intro K hK; go_simp; refine hK _ ?_; clear hK K))) | (refine CanB.cell rfl ?_ (.int .u32 (y1 : Int)) (.int .u32 (y1 : Int)) ⟨b1, o1 + k * 33, none⟩ HCa.out Hb1.out ?_ (fun K hK => ?_); (focus (go_simp; done)); (focus (intro w' hc'; go_simp; (try rfl))); go_simp; refine hK _ ?_; clear hK K) | (refine CanB.row rfl ?_ 47 _ rfl b1 (o1 + k * 33 + 1) (bvs y2) rfl HCb.out Hb1.out _ Tryd.underlying47 rfl (by rw [bvs_length, HL1.out]; kernel_rfl) (fun K hK => ?_); (focus (go_simp; done)); go_simp; refine hK _ ?_; clear hK K) | (refine CanB.row rfl ?_ 47 _ rfl gh (0) (bvs x2) rfl HSr.out Hgr.out _ Tryd.underlying47 rfl (by rw [bvs_length, Hl2.out]; kernel_rfl) (fun K hK => ?_); (focus (go_simp; done)); go_simp; refine hK _ ?_; clear hK K))
            refine CanT.done ?_
            go_wp2_with fail
            go_ret2
            refine ⟨?_, HB3.out.trans (HB.out.drew.mono HB3.out.size)⟩
            have hr1 : r = some k := by
              rw [← Hr0.out]
              have := find_take_none (fun i => sg l i == (x1, x2)) (List.range N) k 0 Hf.out (by simpa using hkn) (by rw [range_getD N k hkn]; exact Hres.out)
              rw [range_getD N k hkn] at this
              exact this
            have e : tellIx z (some k) = ((m : Int), true) := by rw [Hm.out]; rfl
            rw [hr1, e]
            rfl
          | false =>
            go_wp2_with fail
            refine CanB.region 1000 (.op 0 2 (.op 1 2 (.op 2 2 (.op 3 2 (.op 4 1 (.op 5 2 (.op 6 2 (.op 7 2 (.op 8 2 (.op 9 2 (.op 10 2 (.op 11 2 (.op 12 1 (.op 13 1 (.op 14 2 (.op 15 2 (.nil))))))))))))))))) (by kernel_rfl) (by kernel_rfl) ?_
            repeat (first | (refine CanT.skip rfl ?_ (fun K hK => ?_); (focus (go_simp; done)); go_simp; refine hK _ ?_; clear hK K) | (refine CanT.pur rfl ?_ ?_; (focus (go_simp; done)); refine ⟨?_, ?_, ?_⟩; rotate_left; (focus (intro w'; go_simp; rfl)); (focus (intro K hK; go_simp; refine hK _ ?_; clear hK K))) | (refine CanB.cell rfl ?_ (.int .u32 (y1 : Int)) (.int .u32 (y1 : Int)) ⟨b1, o1 + k * 33, none⟩ HCa.out Hb1.out ?_ (fun K hK => ?_); (focus (go_simp; done)); (focus (intro w' hc'; go_simp; (try rfl))); go_simp; refine hK _ ?_; clear hK K) | (refine CanB.row rfl ?_ 47 _ rfl b1 (o1 + k * 33 + 1) (bvs y2) rfl HCb.out Hb1.out _ Tryd.underlying47 rfl (by rw [bvs_length, HL1.out]; kernel_rfl) (fun K hK => ?_); (focus (go_simp; done)); go_simp; refine hK _ ?_; clear hK K) | (refine CanB.row rfl ?_ 47 _ rfl gh (0) (bvs x2) rfl HSr.out Hgr.out _ Tryd.underlying47 rfl (by rw [bvs_length, Hl2.out]; kernel_rfl) (fun K hK => ?_); (focus (go_simp; done)); go_simp; refine hK _ ?_; clear hK K))
            refine CanT.done ?_
            go_wp2_with fail
            go_roundg (N - (k + 1))
            case rel => exact ⟨k + 1, by omega, rfl, rfl, find_take_succ (fun i => sg l i == (x1, x2)) (List.range N) k 0 Hf.out (by simpa using hkn) (by rw [range_getD N k hkn]; exact Hres.out), HB.out.drew⟩
            case measure => have := Hq.out; omega
        | false =>
          go_wp2_with fail
          refine CanB.region 1000 (.op 0 2 (.op 1 2 (.op 2 2 (.op 3 2 (.op 4 1 (.op 5 2 (.op 6 2 (.op 7 2 (.op 8 2 (.op 9 2 (.op 10 2 (.op 11 2 (.op 12 1 (.op 13 1 (.op 14 2 (.op 15 2 (.nil))))))))))))))))) (by kernel_rfl) (by kernel_rfl) ?_
          repeat (first | (refine CanT.skip rfl ?_ (fun K hK => ?_); (focus (go_simp; done)); go_simp; refine hK _ ?_; clear hK K) | (refine CanT.pur rfl ?_ ?_; (focus (go_simp; done)); refine ⟨?_, ?_, ?_⟩; rotate_left; (focus (intro w'; go_simp; rfl)); (focus (intro K hK; go_simp; refine hK _ ?_; clear hK K))) | (refine CanB.cell rfl ?_ (.int .u32 (y1 : Int)) (.int .u32 (y1 : Int)) ⟨b1, o1 + k * 33, none⟩ HCa.out Hb1.out ?_ (fun K hK => ?_); (focus (go_simp; done)); (focus (intro w' hc'; go_simp; (try rfl))); go_simp; refine hK _ ?_; clear hK K) | (refine CanB.row rfl ?_ 47 _ rfl b1 (o1 + k * 33 + 1) (bvs y2) rfl HCb.out Hb1.out _ Tryd.underlying47 rfl (by rw [bvs_length, HL1.out]; kernel_rfl) (fun K hK => ?_); (focus (go_simp; done)); go_simp; refine hK _ ?_; clear hK K) | (refine CanB.row rfl ?_ 47 _ rfl gh (0) (bvs x2) rfl HSr.out Hgr.out _ Tryd.underlying47 rfl (by rw [bvs_length, Hl2.out]; kernel_rfl) (fun K hK => ?_); (focus (go_simp; done)); go_simp; refine hK _ ?_; clear hK K))
          refine CanT.done ?_
          go_wp2_with fail
          go_roundg (N - (k + 1))
          case rel => exact ⟨k + 1, by omega, rfl, rfl, find_take_succ (fun i => sg l i == (x1, x2)) (List.range N) k 0 Hf.out (by simpa using hkn) (by rw [range_getD N k hkn]; exact Hres.out), HB.out.drew⟩
          case measure => have := Hq.out; omega
      · have hkn2 : k = N := by omega
        have t1 : decide ((k : Int) < (N : Int)) = false := by rw [decide_eq_false_iff_not]; omega
        have t2 : ¬ k < N := by omega
        go_wp2_with fail
        go_ret2
        refine ⟨?_, HB3.out.trans (HB.out.mono HB3.out.size)⟩
        have hr1 : r = none := by
          have hf := Hf.out
          rw [hkn2, List.take_of_length_le (by simp)] at hf
          rw [← Hr0.out, hf]
        rw [hr1]
        rfl
  · have hf : findB z l b = (0, false) := by unfold findB; rw [if_neg hbz]
    rw [hf]
    have h3 : ¬ (b.length : Int) = (z : Int) := by omega
    clear hr hf hL
    go_enter Tryd.func21, Tryd.ntmps21
    go_wp2_with fail
    go_ret2
    exact ⟨rfl, Below.refl _ _⟩
end Bk
end Go.Proofs.YtcbkhbnemhkheaaDoor

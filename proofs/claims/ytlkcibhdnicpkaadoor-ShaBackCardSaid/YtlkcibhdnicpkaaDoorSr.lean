/- A block of 64 bytes is worked into the state, of the document's answer. -/
import Derived.Test.YtlkcibhdnicpkaaDoorSr0
namespace Go.Proofs.YtlkcibhdnicpkaaDoor
namespace Sm
open Go.RowKit Ba
set_option linter.unusedVariables false
attribute [local go_sem] U_add U_add' U_xor U_and U_or U_of_u8 U_shr3 U_shr10 U_shl8 U_shl16 U_shl24 U_not U_not'
set_option maxRecDepth 100000 in
set_option maxHeartbeats 2000000 in
theorem rblock_calls (s : List UInt32) (hs : s.length = 8) (b : List UInt8) (hb : b.length = 64) (A : Option Addr) (c : Nat) (w : World) (hr : ReadB w w.heap.size A b) :
    Calls Tryd.prog 41 #[.agg (wvs s).toArray, .slice A 64 c, .agg (wvs rounds).toArray] w
    fun e w' => e = .returned (.agg (wvs (block s b)).toArray) ∧ Below w.heap.size w w' := by
  obtain ⟨ab, ao, rfl, hab, hcell⟩ := hr (by omega)
  have Hcell := Lib.hid hcell
  have Hs := Lib.hid hs
  obtain ⟨RA, hRA⟩ : ∃ RA, RA = (wvs rounds).toArray := ⟨_, rfl⟩
  obtain ⟨SA, hSA⟩ : ∃ SA, SA = (wvs s).toArray := ⟨_, rfl⟩
  have HRA := Lib.hid hRA
  have HSA := Lib.hid hSA
  rw [← hRA, ← hSA]
  clear hcell hr hs hRA hSA
  go_enter Tryd.func41, Tryd.ntmps41
  go_wp2_with fail
  obtain ⟨n0, hn0⟩ : ∃ n0, n0 = w.heap.size := ⟨_, rfl⟩
  rw [← hn0]
  have Hn0 := Lib.hid hn0
  clear hn0
  generalize hg7 : n0 + 1 + 1 + 1 = g7
  generalize hg6 : n0 + 1 + 1 = g6
  generalize hg5 : n0 + 1 = g5
  have Hg : Hid (g5 = n0 + 1 ∧ g6 = n0 + 2 ∧ g7 = n0 + 3) := Lib.hid ⟨hg5.symm, hg6.symm, hg7.symm⟩
  clear hg5 hg6 hg7
  go_loopw [8, 9, 10] (fun i _ _ wr => ∃ k : Nat, k ≤ 64 ∧ i = .int .i64 k ∧ BlkW wr g7 65 (xp b k) ∧ BlkW wr n0 62 s ∧ BlkW wr g5 65 rounds ∧ BlkW wr g6 62 (List.replicate 8 0) ∧ Below n0 w wr) (fun i _ _ _ => 64 - (intOf i).toNat)
  case atStart =>
    obtain ⟨e5, e6, e7⟩ := Hg.out
    rw [HRA.out, HSA.out, e5, e6, e7]
    refine ⟨0, Nat.zero_le _, rfl, BlkW.new_ _ _ _ _ _ (by simp [Hn0.out]) (by rfl), ?_, ?_, ?_, ?_⟩
    · exact BlkW.alloc (BlkW.alloc (BlkW.alloc (BlkW.new_ _ _ _ _ _ Hn0.out rfl) _) _) _
    · exact BlkW.alloc (BlkW.alloc (BlkW.new_ _ _ _ _ _ (by simp [Hn0.out]) rfl) _) _
    · exact BlkW.alloc (BlkW.new_ _ _ _ _ _ (by simp [Hn0.out]) (by rfl)) _
    · exact (((((Below.refl _ _).alloc (by rw [Hn0.out]; exact Nat.le_refl _) _).alloc (by simp [Hn0.out]) _).alloc (by simp [Hn0.out]; omega) _).alloc (by simp [Hn0.out]; omega) _)
  case round =>
    obtain ⟨k, hk, rfl, hX, hB3, hB5, hB6, hbel⟩ := hrel
    have HX := Lib.hid hX
    have HB3 := Lib.hid hB3
    have HB5 := Lib.hid hB5
    have HB6 := Lib.hid hB6
    have Hbel := Lib.hid hbel
    have hfk := hX.frozen k
    clear hX hB3 hB5 hB6 hbel
    by_cases hkl : k < 64
    · have hck := HX.out.cell k (by rw [xp_len b k hk]; exact hkl)
      by_cases h16 : k < 16
      · have y0 := (Hbel.out.cell (p := ⟨ab, ao + (4 * k), none⟩) (by rw [Hn0.out]; exact hab)).trans (Hcell.out (4 * k) (by omega))
        have y1 := (Hbel.out.cell (p := ⟨ab, ao + (4 * k + 1), none⟩) (by rw [Hn0.out]; exact hab)).trans (Hcell.out (4 * k + 1) (by omega))
        have y2 := (Hbel.out.cell (p := ⟨ab, ao + (4 * k + 2), none⟩) (by rw [Hn0.out]; exact hab)).trans (Hcell.out (4 * k + 2) (by omega))
        have y3 := (Hbel.out.cell (p := ⟨ab, ao + (4 * k + 3), none⟩) (by rw [Hn0.out]; exact hab)).trans (Hcell.out (4 * k + 3) (by omega))
        obtain ⟨z0, hz0⟩ : ∃ z, z = b.getD (4 * k) 0 := ⟨_, rfl⟩
        obtain ⟨z1, hz1⟩ : ∃ z, z = b.getD (4 * k + 1) 0 := ⟨_, rfl⟩
        obtain ⟨z2, hz2⟩ : ∃ z, z = b.getD (4 * k + 2) 0 := ⟨_, rfl⟩
        obtain ⟨z3, hz3⟩ : ∃ z, z = b.getD (4 * k + 3) 0 := ⟨_, rfl⟩
        rw [← hz0] at y0
        rw [← hz1] at y1
        rw [← hz2] at y2
        rw [← hz3] at y3
        have Hz := Lib.hid (And.intro hz0 (And.intro hz1 (And.intro hz2 hz3)))
        clear hz0 hz1 hz2 hz3
        go_wp2_with fail
        go_region
        go_wp2
        go_roundw
        case rel =>
          obtain ⟨e5, e6, e7⟩ := Hg.out
          refine ⟨k + 1, by omega, by go_num, ?_, (HB3.out.far (by simp; omega) _).drew, (HB5.out.far (by simp; omega) _).drew, (HB6.out.far (by simp; omega) _).drew, (Hbel.out.setCell (by simp; omega) _).drew⟩
          obtain ⟨rfl, rfl, rfl, rfl⟩ := Hz.out
          have := HX.out.set_ k (be b (4 * k))
          rw [xp_lo_set b k h16] at this
          exact this
        case measure => simp [intOf]; omega
      · have h16' : 16 ≤ k := by omega
        have hc15 := HX.out.cell (k - 15) (by rw [xp_len b k hk]; omega)
        have hc2 := HX.out.cell (k - 2) (by rw [xp_len b k hk]; omega)
        have hc16 := HX.out.cell (k - 16) (by rw [xp_len b k hk]; omega)
        have hc7 := HX.out.cell (k - 7) (by rw [xp_len b k hk]; omega)
        rw [xp_at b k _ h16' (by omega)] at hc15 hc2 hc16 hc7
        obtain ⟨ww, hww⟩ : ∃ ww, ww = wl b k := ⟨_, rfl⟩
        rw [← hww] at hc15 hc2 hc16 hc7
        have Hww := Lib.hid hww
        clear hww
        go_wp2_with fail
        go_quiet (fail)
        go_wp2_with fail
        have a1 : ((k : Int) - 16).toNat = k - 16 := by omega
        have a2 : ((k : Int) - 7).toNat = k - 7 := by omega
        have a3 : (0 : Int) ≤ (k : Int) - 16 := by omega
        have a4 : (0 : Int) ≤ (k : Int) - 7 := by omega
        have a5 : (k : Int) - 16 < 64 := by omega
        have a6 : (k : Int) - 7 < 64 := by omega
        have a7 : IntKind.i64.wrap ((k : Int) - 16) = (k : Int) - 16 := IntWalk.i64_in _ (by omega)
        have a8 : IntKind.i64.wrap ((k : Int) - 7) = (k : Int) - 7 := IntWalk.i64_in _ (by omega)
        have a9 : (7 : Int) ≤ (k : Int) := by clear a7 a8; omega
        have a10 : (k : Int) < 71 := by clear a7 a8; omega
        refine CanL.region (fun w' => w'.cell? ⟨g7, k - 16, none⟩ = some (.int .u32 (U (Sm.g ww (k - 16)))) ∧ w'.cell? ⟨g7, k - 7, none⟩ = some (.int .u32 (U (Sm.g ww (k - 7))))) 29 [(0, 2), (1, 2), (2, 2), (3, 2), (4, 1), (5, 2), (7, 2), (10, 2), (11, 2), (14, 2), (15, 2), (16, 2), (17, 1), (19, 2), (21, 2), (24, 2), (25, 2), (6, 0), (8, 0), (9, 2), (12, 2), (13, 2), (18, 2), (20, 0), (22, 0), (23, 2), (26, 2), (27, 2), (28, 2), (29, 0)] (by kernel_rfl) (by kernel_rfl) ⟨hc16, hc7⟩ ?_
        repeat (first | (refine CanL.skip rfl ?_ (fun K hK => ?_); (focus (go_simp; done)); go_simp; refine hK _ ?_; clear hK K) | (refine CanL.pur rfl ?_ ?_; (focus (go_simp; done)); refine ⟨?_, ?_, ?_⟩; rotate_left; (focus (intro w'; go_simp; rfl)); (focus (intro K hK; go_simp; refine hK _ ?_; clear hK K))) | (refine CanL.held rfl ?_ ?_; (focus (go_simp; done)); refine ⟨?_, ?_, ?_⟩; rotate_left; (focus (intro w' hS'; (try dsimp only at hS'); go_simp; rfl)); (focus (intro K hK; go_simp; refine hK _ ?_; clear hK K))) | (refine CanL.last rfl (fun K hK => ?_); go_simp; refine hK.out _ _ ?_; clear hK K) | (refine CanL.imp rfl (fun K hK => ?_); go_simp; (first | (go_at_call 54; refine (turn_any _ _ (by decide) _).mono ?_; rintro e w4 ⟨rfl, k4, rfl⟩)); go_simp; refine hK.out _ _ (⟨hc16, hc7⟩) ?_; clear hK K))
        refine CanL.done ?_
        clear a1 a2 a3 a4 a5 a6 a7 a8 a9 a10
        go_wp2
        go_roundw
        case rel =>
          obtain ⟨e5, e6, e7⟩ := Hg.out
          refine ⟨k + 1, by omega, by go_num, ?_, ((HB3.out.drewN _).far (by simp; omega) _), ((HB5.out.drewN _).far (by simp; omega) _), ((HB6.out.drewN _).far (by simp; omega) _), ((below_drewN Hbel.out _).setCell (by simp; omega) _)⟩
          have key : ∀ N, BlkW ((wr.drewN N).setCell ⟨g7, k, none⟩ (.int .u32 (U (nextW ww k)))) g7 65 (xp b (k + 1)) := by
            intro N
            have := (HX.out.drewN N).set_ k (nextW (wl b k) k)
            rw [xp_hi_set b k h16' hkl, ← Hww.out] at this
            exact this
          exact key _
        case measure => simp [intOf]; omega
    · have hk64 : k = 64 := by omega
      have hX := HX.out
      rw [hk64, xp_64] at hX
      obtain ⟨ws, hws⟩ : ∃ ws, ws = sched b := ⟨_, rfl⟩
      rw [← hws] at hX
      have hwl : ws.length = 64 := by rw [hws, ← spart64]; exact spart_len b 64 (by omega) (by omega)
      have Hws := Lib.hid hws
      have HX := Lib.hid hX
      have Hwl := Lib.hid hwl
      clear hX hws hwl hk64 hfk hk
      go_wp2_with (first
        | (refine wpList_loadW rfl 62 (.tmp 3) rfl n0 62 s rfl HB3.out _ Tryd.underlying62 rfl (by rw [Hs.out]; kernel_rfl) ?_)
        | (refine wpList_storeW rfl 62 (.tmp 11) (.tmp 96) rfl wr.heap.size 62 (List.replicate 8 0) s rfl rfl (BlkW.new_ _ _ _ _ _ (by rfl) (by rfl)) (by rw [Hs.out]; rfl) (by rw [Hs.out]; kernel_rfl) ?_; intro w3 hV3 hg3))
      have hgl : ∀ g, g < wr.heap.size → some g ≠ some wr.heap.size := fun g h => by simp; omega
      have q3 := BlkW.grown (BlkW.alloc HB3.out _) hg3 (hgl _ HB3.out.lt)
      have q5 := BlkW.grown (BlkW.alloc HB5.out _) hg3 (hgl _ HB5.out.lt)
      have q6 := BlkW.grown (BlkW.alloc HB6.out _) hg3 (hgl _ HB6.out.lt)
      have q7 := BlkW.grown (BlkW.alloc HX.out _) hg3 (hgl _ HX.out.lt)
      have hns : n0 ≤ wr.heap.size := by have := Hbel.out.size; rw [← Hn0.out] at this; exact this
      have qb : Below n0 w w3 := (Hbel.out.alloc hns _).trans (below_of_only hg3 hns (by simp; omega))
      have hlt7 : g7 < wr.heap.size := HX.out.lt
      obtain ⟨g11, hg11⟩ : ∃ g11, g11 = wr.heap.size := ⟨_, rfl⟩
      rw [← hg11] at hV3 hlt7 ⊢
      have Hlt7 := Lib.hid hlt7
      have HV3 := Lib.hid hV3
      have Hq3 := Lib.hid q3
      have Hq5 := Lib.hid q5
      have Hq6 := Lib.hid q6
      have Hq7 := Lib.hid q7
      have Hqb := Lib.hid qb
      clear hg11 hV3 q3 q5 q6 q7 qb hgl hns hlt7 hg3 HX HB3 HB5 HB6 Hbel
      obtain ⟨rt, hrt⟩ : ∃ rt, rt = rounds := ⟨_, rfl⟩
      have Hrt := Lib.hid hrt
      rw [← hrt] at Hq5
      have hrl : rt.length = 64 := by rw [hrt]; rfl
      have Hrl := Lib.hid hrl
      clear hrt hrl
      go_loopw [12, 13, 14, 15, 16] (fun i _ _ _ _ wx => ∃ k : Nat, k ≤ 64 ∧ i = .int .i64 k ∧ BlkW wx g11 62 (runK s ws k) ∧ BlkW wx g7 65 ws ∧ BlkW wx n0 62 s ∧ BlkW wx g5 65 rt ∧ BlkW wx g6 62 (List.replicate 8 0) ∧ Below n0 w wx) (fun i _ _ _ _ _ => 64 - (intOf i).toNat)
      case atStart => exact ⟨0, Nat.zero_le _, rfl, HV3.out, Hq7.out, Hq3.out, Hq5.out, Hq6.out, Hqb.out⟩
      case round =>
        obtain ⟨k, hk, rfl, hV, hX, hB3, hB5, hB6, hbel⟩ := hrel
        obtain ⟨v, hv⟩ : ∃ v, v = runK s ws k := ⟨_, rfl⟩
        have hvl : (runK s ws k).length = 8 := runK_len s ws k Hs.out
        rw [← hv] at hV hvl
        have Hv := Lib.hid hv
        have Hvl := Lib.hid hvl
        have HV := Lib.hid hV
        have HX := Lib.hid hX
        have HB3 := Lib.hid hB3
        have HB5 := Lib.hid hB5
        have HB6 := Lib.hid hB6
        have Hbel := Lib.hid hbel
        clear hv hV hX hB3 hB5 hB6 hbel
        by_cases hkl : k < 64
        · have hv0 := HV.out.cell 0 (by omega)
          have hv1 := HV.out.cell 1 (by omega)
          have hv2 := HV.out.cell 2 (by omega)
          have hv3 := HV.out.cell 3 (by omega)
          have hv4 := HV.out.cell 4 (by omega)
          have hv5 := HV.out.cell 5 (by omega)
          have hv6 := HV.out.cell 6 (by omega)
          have hv7 := HV.out.cell 7 (by omega)
          have hwk := HX.out.cell k (by rw [Hwl.out]; exact hkl)
          have hrk := HB5.out.cell k (by rw [Hrl.out]; exact hkl)
          have j1 : (0 : Int) ≤ (k : Int) := by omega
          have j2 : (k : Int) < 64 := by omega
          clear hvl
          go_wp2_with fail
          go_quiet (fail)
          go_wp2_with fail
          refine CanL.region (fun w' => w'.cell? ⟨g11, 7, none⟩ = some (.int .u32 (U (Sm.g v 7))) ∧ w'.cell? ⟨g11, 5, none⟩ = some (.int .u32 (U (Sm.g v 5))) ∧ w'.cell? ⟨g11, 6, none⟩ = some (.int .u32 (U (Sm.g v 6))) ∧ w'.cell? ⟨g7, k, none⟩ = some (.int .u32 (U (Sm.g ws k))) ∧ w'.cell? ⟨g5, k, none⟩ = some (.int .u32 (U (Sm.g rt k)))) 1000 [(0, 2), (1, 1), (2, 2), (4, 2), (7, 2), (11, 2), (12, 2), (13, 1), (14, 2), (15, 2), (16, 2), (17, 2), (18, 1), (19, 2), (20, 2), (22, 2), (23, 2), (24, 1), (26, 2), (27, 2), (28, 1), (3, 0), (5, 0), (6, 2), (8, 0), (9, 2), (10, 2), (21, 2), (25, 2), (29, 2), (30, 2)] (by kernel_rfl) (by kernel_rfl) ⟨hv7, hv5, hv6, hwk, hrk⟩ ?_
          repeat (first | (refine CanL.skip rfl ?_ (fun K hK => ?_); (focus (go_simp; done)); go_simp; refine hK _ ?_; clear hK K) | (refine CanL.pur rfl ?_ ?_; (focus (go_simp; done)); refine ⟨?_, ?_, ?_⟩; rotate_left; (focus (intro w'; go_simp; rfl)); (focus (intro K hK; go_simp; refine hK _ ?_; clear hK K))) | (refine CanL.held rfl ?_ ?_; (focus (go_simp; done)); refine ⟨?_, ?_, ?_⟩; rotate_left; (focus (intro w' hS'; (try dsimp only at hS'); go_simp; rfl)); (focus (intro K hK; go_simp; refine hK _ ?_; clear hK K))) | (refine CanL.last rfl (fun K hK => ?_); go_simp; refine hK.out _ _ ?_; clear hK K) | (refine CanL.imp rfl (fun K hK => ?_); go_simp; (first | (go_at_call 54; refine (turn_any _ _ (by decide) _).mono ?_; rintro e w4 ⟨rfl, k4, rfl⟩)); go_simp; refine hK.out _ _ (⟨hv7, hv5, hv6, hwk, hrk⟩) ?_; clear hK K))
          refine CanL.done ?_
          go_wp2_with fail
          refine CanL.region (fun w' => w'.cell? ⟨g11, 1, none⟩ = some (.int .u32 (U (Sm.g v 1))) ∧ w'.cell? ⟨g11, 2, none⟩ = some (.int .u32 (U (Sm.g v 2)))) 1000 [(0, 2), (2, 2), (5, 2), (8, 2), (9, 2), (10, 1), (11, 2), (12, 2), (13, 2), (14, 1), (15, 2), (16, 2), (17, 2), (18, 1), (19, 2), (20, 1), (21, 2), (22, 2), (1, 0), (3, 0), (4, 2), (6, 0), (7, 2), (23, 2), (24, 2)] (by kernel_rfl) (by kernel_rfl) ⟨hv1, hv2⟩ ?_
          repeat (first | (refine CanL.skip rfl ?_ (fun K hK => ?_); (focus (go_simp; done)); go_simp; refine hK _ ?_; clear hK K) | (refine CanL.pur rfl ?_ ?_; (focus (go_simp; done)); refine ⟨?_, ?_, ?_⟩; rotate_left; (focus (intro w'; go_simp; rfl)); (focus (intro K hK; go_simp; refine hK _ ?_; clear hK K))) | (refine CanL.held rfl ?_ ?_; (focus (go_simp; done)); refine ⟨?_, ?_, ?_⟩; rotate_left; (focus (intro w' hS'; (try dsimp only at hS'); go_simp; rfl)); (focus (intro K hK; go_simp; refine hK _ ?_; clear hK K))) | (refine CanL.last rfl (fun K hK => ?_); go_simp; refine hK.out _ _ ?_; clear hK K) | (refine CanL.imp rfl (fun K hK => ?_); go_simp; (first | (go_at_call 54; refine (turn_any _ _ (by decide) _).mono ?_; rintro e w4 ⟨rfl, k4, rfl⟩)); go_simp; refine hK.out _ _ (⟨hv1, hv2⟩) ?_; clear hK K))
          refine CanL.done ?_
          go_wp2_with (refine wpList_storeW rfl 62 (.tmp 11) (.tmp 178) rfl g11 62 v (roundR v (Sm.g rt k) (Sm.g ws k)) rfl rfl (HV.out.drewN _) (by rw [Hvl.out]; rfl) (by kernel_rfl) ?_; intro w5 hV5 hg5)
          go_roundw
          case rel =>
            have hg5 := undrewN hg5
            obtain ⟨e5, e6, e7⟩ := Hg.out
            have h7 := Hlt7.out
            refine ⟨k + 1, by omega, by go_num, ?_, HX.out.grown hg5 (by simp; omega), HB3.out.grown hg5 (by simp; omega), HB5.out.grown hg5 (by simp; omega), HB6.out.grown hg5 (by simp; omega), Hbel.out.trans (below_of_only hg5 (by omega) (by rw [Hn0.out]; exact Hbel.out.size))⟩
            rw [runK_succ s ws k Hwl.out hkl, ← Hv.out, ← Hrt.out, ← roundR_eq]
            exact hV5
          case measure => simp [intOf]; omega
        · have hk64 : k = 64 := by omega
          have hv := Hv.out
          rw [hk64, runK_all s ws Hwl.out, Hws.out] at hv
          have Hv2 := Lib.hid hv
          clear hk64 hv hk hvl
          go_wp2
          go_loopw [17] (fun i wx => ∃ k : Nat, k ≤ 8 ∧ i = .int .i64 k ∧ BlkW wx g11 62 v ∧ BlkW wx n0 62 (upd s v k) ∧ BlkW wx g6 62 (List.replicate 8 0) ∧ Below n0 w wx) (fun i _ => 8 - (intOf i).toNat)
          case atStart => exact ⟨0, Nat.zero_le _, rfl, HV.out, by rw [upd_0 s v Hs.out]; exact HB3.out, HB6.out, Hbel.out⟩
          case round =>
            obtain ⟨i, hi, rfl, hV, hB3, hB6, hbel⟩ := hrel
            by_cases hil : i < 8
            · have hvi := hV.cell i (by rw [Hvl.out]; exact hil)
              have hsi := hB3.cell i (by rw [upd_len]; exact hil)
              rw [upd_at s v i i hil, if_neg (by omega)] at hsi
              have hfi := hB3.frozen i
              have HV := Lib.hid hV
              have HB3 := Lib.hid hB3
              have HB6 := Lib.hid hB6
              have Hbel := Lib.hid hbel
              clear hV hB3 hB6 hbel
              go_wp2_with fail
              go_region
              go_wp2
              go_roundw
              case rel =>
                obtain ⟨e5, e6, e7⟩ := Hg.out
                have h7 := Hlt7.out
                refine ⟨i + 1, by omega, by go_num, (HV.out.far (by simp; omega) _).drew, ?_, (HB6.out.far (by simp; omega) _).drew, (Hbel.out.setCell (by simp) _).drew⟩
                have := HB3.out.set_ i (Sm.g s i + Sm.g v i)
                rw [upd_set s v i hil] at this
                exact this
              case measure => simp [intOf]; omega
            · have hi8 : i = 8 := by omega
              rw [hi8, Hv2.out, upd_8] at hB3
              obtain ⟨bl, hbl⟩ : ∃ bl, bl = block s b := ⟨_, rfl⟩
              have hbll : bl.length = 8 := by rw [hbl]; exact block_len s b
              rw [← hbl] at hB3
              have Hbl := Lib.hid hbl
              have Hbll := Lib.hid hbll
              have HB3 := Lib.hid hB3
              have HB6 := Lib.hid hB6
              have Hbel := Lib.hid hbel
              clear hV hB3 hB6 hbel hi8 hi hbl hbll
              go_wp2_with (first
                | (refine wpList_loadW rfl 62 (.tmp 3) rfl n0 62 bl rfl HB3.out _ Tryd.underlying62 rfl (by rw [Hbll.out]; kernel_rfl) ?_)
                | (refine wpList_storeW rfl 62 (.tmp 6) (.tmp 191) rfl g6 62 (List.replicate 8 0) bl rfl rfl HB6.out (by rw [Hbll.out]; rfl) (by rw [Hbll.out]; kernel_rfl) ?_; intro w9 hR9 hg9))
              refine bodyPost_ret (results_cell_row (p := 6) (ty := 62) (by kernel_rfl) _ w9 g6 62 (wvs bl).toArray (0, 0) _ rfl hR9 Tryd.underlying62 rfl (by rw [List.size_toArray, wvs_len, Hbll.out]; kernel_rfl)) rfl ⟨by rw [Hbl.out], ?_⟩
              obtain ⟨e5, e6, e7⟩ := Hg.out
              have hbel2 := Hbel.out.trans (below_of_only hg9 (by omega) (by rw [Hn0.out]; exact Hbel.out.size))
              rw [Hn0.out] at hbel2
              exact hbel2
end Sm
end Go.Proofs.YtlkcibhdnicpkaaDoor

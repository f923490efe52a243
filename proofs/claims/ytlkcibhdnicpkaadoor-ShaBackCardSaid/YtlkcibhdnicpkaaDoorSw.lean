/- A block of 64 bytes is worked into the state, of the program. -/
import Derived.Test.YtlkcibhdnicpkaaDoorSu
namespace Go.Proofs.YtlkcibhdnicpkaaDoor
namespace Sm
open Go.RowKit Ba
set_option linter.unusedVariables false
attribute [local go_sem] U_add U_add' U_xor U_and U_or U_of_u8 U_shr3 U_shr10 U_shl8 U_shl16 U_shl24 U_not U_not'
/-- the round words lie in the first variable -/
def Tab (w : World) : Prop := 0 < w.heap.size ∧ w.rangeAt 0 0 (wvs rounds)
theorem Tab.below {w w' : World} (h : Tab w) (hb : Below w.heap.size w w') : Tab w' := ⟨Nat.lt_of_lt_of_le h.1 hb.size, fun j v hv => (hb.cell (p := ⟨0, 0 + j, none⟩) h.1).trans (h.2 j v hv)⟩
theorem Tab.grown {w w' : World} {g : Nat} (h : Tab w) (hb : w.grownBy w' (some g)) (hg : 0 < g) : Tab w' := ⟨Nat.lt_of_lt_of_le h.1 hb.size, fun j v hv => (World.cell?_of_block (hb.block 0 h.1 (by simp; omega))).trans (h.2 j v hv)⟩

set_option maxRecDepth 100000 in
set_option maxHeartbeats 400000 in
theorem work_calls (s : List UInt32) (hs : s.length = 8) (g : Nat) (t : TypeId) (post : List Value) (b : List UInt8) (hb : b.length = 64) (A : Option Addr) (c : Nat) (hc : 64 ≤ c) (hcm : c ≤ 9223372036854775807) (w : World) (hr : ReadB w w.heap.size A b)
    (hblk : Blk w g t (wvs s ++ post).toArray) (hg0 : 0 < g) (htab : Tab w) : Calls Tryd.prog 44 #[.pointer (some ⟨g, 0, none⟩), .slice A 64 c] w
    fun e w' => e = .returned (.tuple #[]) ∧ Blk w' g t (wvs (block s b) ++ post).toArray ∧ w.grownBy w' (some g) := by
  have hlen : (sched b).length = 64 := by rw [← spart64]; exact spart_len b 64 (by omega) (by omega)
  have Hlen := Lib.hid hlen
  have Hblk := Lib.hid hblk
  have Htab := Lib.hid htab
  have Hs := Lib.hid hs
  clear hblk htab hlen hs
  go_enter Tryd.func44, Tryd.ntmps44
  go_wp2_with fail
  refine (spread_calls b hb A c hc hcm w hr).mono ?_
  rintro e w1 ⟨rfl, hb1⟩
  have hb1' := Lib.hid hb1
  have hg1 := (Hblk.out.below hb1 Hblk.out.lt)
  have Hblk1 := Lib.hid hg1
  have Htab1 := Lib.hid (Htab.out.below hb1)
  clear hb1 hg1
  have hglt := Hblk1.out.lt
  have Hglt := Lib.hid hglt
  clear hglt
  go_wp2_with (first
    | (refine wpList_storeW rfl 65 (.tmp 4) (.tmp 14) rfl w1.heap.size 65 (List.replicate 64 0) (sched b) rfl rfl (BlkW.new_ _ _ _ _ _ (by rfl) (by rfl)) (by rw [Hlen.out]; rfl) (by rw [Hlen.out]; kernel_rfl) ?_; intro w2 hW2 hg2; have Hblk2 := Lib.hid (Blk.grown (Blk.alloc Hblk1.out _) hg2 (by simp; have := Hglt.out; omega)); have Htab2 := Lib.hid (Tab.grown (Htab1.out.below ((Below.refl _ _).alloc (Nat.le_refl _) _)) hg2 (by have := Htab1.out.1; omega)); have HW2 := Lib.hid hW2; have Hb2 := Lib.hid (only_after ((Below.refl _ _).alloc (Nat.le_refl _) _) hg2 (Nat.le_refl _)); clear hW2 hg2)
    | (refine wpList_load_blk rfl 68 (.tmp 16) rfl g 0 t [] (wvs s) post rfl Hblk2.out rfl _ Tryd.underlying68 rfl (by rw [wvs_len, Hs.out]; kernel_rfl) ?_)
    | (refine wpList_storeW rfl 68 (.tmp 5) (.tmp 17) rfl w2.heap.size 68 (List.replicate 8 0) s rfl rfl (BlkW.new_ _ _ _ _ _ (by rfl) (by rfl)) (by rw [Hs.out]; rfl) (by rw [Hs.out]; kernel_rfl) ?_; intro w3 hV3 hg3; have Hblk3 := Lib.hid (Blk.grown (Blk.alloc Hblk2.out _) hg3 (by simp; have := Hblk2.out.lt; omega)); have HW3 := Lib.hid (BlkW.grown (BlkW.alloc HW2.out _) hg3 (by simp; have := HW2.out.lt; omega)); have Htab3 := Lib.hid (Tab.grown (Htab2.out.below ((Below.refl _ _).alloc (Nat.le_refl _) _)) hg3 (by have := Htab2.out.1; omega)); have HV3 := Lib.hid hV3; have Hb3 := Lib.hid (only_after (Hb2.out.alloc Hb2.out.size _) hg3 Hb2.out.size); clear hV3 hg3)
    | (refine wpList_load_mid rfl 65 (.global 0) rfl 0 0 rfl (wvs rounds) _ Htab3.out.2 Tryd.underlying65 rfl (by kernel_rfl) ?_))
  have hg12 : w1.heap.size < w2.heap.size := HW2.out.lt
  have Hg12 := Lib.hid hg12
  clear Hblk2 Htab2 HW2 Hb2 hg12 Hblk1 Htab1
  generalize hg1e : w1.heap.size = g1 at *
  generalize hg2e : w2.heap.size = g2 at *
  clear hg2e
  have Hidx : Hid (∀ k : Nat, k < 64 → ∀ w', (Instr.index 65 (.agg (wvs rounds).toArray) (.int .i64 (k : Int))).run Tryd.prog w' = .ok (.int .u32 (U (Sm.g rounds k))) w') := Lib.hid (fun k hk w' => run_index_words 65 61 64 rounds k Tryd.underlying65 Tryd.underlying61 (by kernel_rfl) hk rfl w')
  obtain ⟨rt, hrt⟩ : ∃ rt, rt = Sm.g rounds := ⟨_, rfl⟩
  rw [← hrt] at Hidx
  have Hrt := Lib.hid hrt
  clear hrt
  generalize (wvs rounds).toArray = RA at Hidx ⊢
  obtain ⟨ws, hws⟩ : ∃ ws, ws = sched b := ⟨_, rfl⟩
  have Hws := Lib.hid hws
  rw [← hws] at Hlen HW3 ⊢
  clear hws
  go_loopw [6, 7, 8, 9, 10, 11, 19] (fun _ _ _ _ _ _ i wr => ∃ k : Nat, k ≤ 64 ∧ i = .int .i64 k ∧ BlkW wr g2 68 (runK s ws k) ∧ BlkW wr g1 65 ws ∧ Blk wr g t (wvs s ++ post).toArray ∧ Below g1 w1 wr) (fun _ _ _ _ _ _ i _ => 64 - (intOf i).toNat)
  case atStart => exact ⟨0, Nat.zero_le _, rfl, HV3.out, HW3.out, Hblk3.out, Hb3.out⟩
  case round =>
    obtain ⟨k, hk, rfl, hV, hW, hB, hbel⟩ := hrel
    obtain ⟨v, hv⟩ : ∃ v, v = runK s ws k := ⟨_, rfl⟩
    have hvl : (runK s ws k).length = 8 := runK_len s ws k Hs.out
    rw [← hv] at hV hvl
    have Hv := Lib.hid hv
    clear hv
    by_cases hkl : k < 64
    · have hidx := Hidx.out k hkl
      have hwk := hW.cell k (by rw [Hlen.out]; exact hkl)
      have hv0 := hV.cell 0 (by omega)
      have hv1 := hV.cell 1 (by omega)
      have hv2 := hV.cell 2 (by omega)
      have hv3 := hV.cell 3 (by omega)
      have hv4 := hV.cell 4 (by omega)
      have hv5 := hV.cell 5 (by omega)
      have hv6 := hV.cell 6 (by omega)
      have hv7 := hV.cell 7 (by omega)
      have HV := Lib.hid hV
      have HW := Lib.hid hW
      have HB := Lib.hid hB
      have Hbel := Lib.hid hbel
      have Hvl := Lib.hid hvl
      clear hV hW hB hbel hvl
      go_wp2_with fail
      go_quiet (fail)
      go_wp2_with fail
      go_quiet (fail)
      go_wp2_with (first
        | (go_at_call 56; refine (rot_any _ _ (by decide) _).mono ?_; rintro e w5 ⟨rfl, rfl⟩)
        | (refine wpList_storeW rfl 68 (.tmp 5) (.tmp 100) rfl g2 68 v (round v (rt k) (Sm.g ws k)) rfl rfl HV.out (by rw [Hvl.out]; rfl) (by kernel_rfl) ?_; intro w5 hV5 hg5))
      go_roundw
      case rel =>
        have hg5 := undrewN hg5
        refine ⟨k + 1, by omega, by go_num, ?_, HW.out.grown hg5 (by have := Hg12.out; simp; omega), Blk.grown HB.out hg5 (by have := Hg12.out; have := Hglt.out; simp; omega), Hbel.out.trans (below_of_only hg5 (by have := Hg12.out; omega) (by rw [← hg1e]; exact Hbel.out.size))⟩
        rw [runK_succ s ws k Hlen.out hkl, ← Hv.out, ← Hrt.out]
        exact hV5
      case measure => simp [intOf]; omega
    · have hk64 : k = 64 := by omega
      have hv := Hv.out
      rw [hk64, runK_all s ws Hlen.out, Hws.out] at hv
      clear hW
      have HV := Lib.hid hV
      have HB := Lib.hid hB
      have Hbel := Lib.hid hbel
      have Hvl := Lib.hid hvl
      have Hv2 := Lib.hid hv
      clear hV hB hbel hvl hv hk hk64 Hv
      go_wp2
      go_loopw [12, 102] (fun _ i wr => ∃ k : Nat, k ≤ 8 ∧ i = .int .i64 k ∧ BlkW wr g2 68 v ∧ Blk wr g t (wvs (upd s v k) ++ post).toArray ∧ w1.grownBy wr (some g)) (fun _ i _ => 8 - (intOf i).toNat)
      case atStart => exact ⟨0, Nat.zero_le _, rfl, HV.out, by rw [upd_0 s v Hs.out]; exact HB.out, only_of_below (by rw [hg1e]; exact Hbel.out) _⟩
      case round =>
        obtain ⟨i, hi, rfl, hV, hB, hbel⟩ := hrel
        by_cases hil : i < 8
        · have hvi := hV.cell i (by rw [Hvl.out]; exact hil)
          have hsi := cellP hB i (by rw [upd_len]; exact hil)
          rw [upd_at s v i i hil, if_neg (by omega)] at hsi
          have hfi := Blk.frozen hB i
          have HV := Lib.hid hV
          have HB := Lib.hid hB
          have Hbel := Lib.hid hbel
          clear hV hB hbel
          go_wp2
          go_region
          go_wp2
          go_roundw
          case rel =>
            refine ⟨i + 1, by omega, by go_num, (HV.out.far (by have := Hg12.out; have := Hglt.out; simp; omega) _).drew, ?_, grown_drew (only_trans Hbel.out (only_set _ _ _ _))⟩
            have := setP HB.out i (by rw [upd_len]; exact hil) (Sm.g s i + Sm.g v i)
            rw [upd_set s v i hil] at this
            exact this
          case measure => simp [intOf]; omega
        · have hi8 : i = 8 := by omega
          rw [hi8, Hv2.out, upd_8] at hB
          have HB := Lib.hid hB
          have Hbel := Lib.hid hbel
          clear hB hbel hV hi8 hi
          go_wp2
          refine bodyPost_end (results_none rfl _ _ _) rfl ⟨rfl, HB.out, ?_⟩
          exact only_trans (only_of_below hb1'.out _) Hbel.out
end Sm
end Go.Proofs.YtlkcibhdnicpkaaDoor

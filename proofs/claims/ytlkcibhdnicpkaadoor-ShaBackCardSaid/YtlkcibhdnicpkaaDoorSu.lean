import Derived.Test.YtlkcibhdnicpkaaDoorSt
namespace Go.Proofs.YtlkcibhdnicpkaaDoor
namespace Sm
open Go.RowKit Ba
set_option linter.unusedVariables false
attribute [local go_sem] U_add U_add' U_xor U_and U_or U_of_u8 U_shr3 U_shr10 U_shl8 U_shl16 U_shl24
set_option maxRecDepth 100000 in
set_option maxHeartbeats 1000000 in
theorem spread_calls (b : List UInt8) (hb : b.length = 64) (A : Option Addr) (c : Nat) (hc : 64 ≤ c) (hcm : c ≤ 9223372036854775807) (w : World) (hr : ReadB w w.heap.size A b) : Calls Tryd.prog 55 #[.slice A 64 c] w
    fun e w' => e = .returned (.agg (wvs (sched b)).toArray) ∧ Below w.heap.size w w' := by
  obtain ⟨ab, ao, rfl, hab, hcell⟩ := hr (by omega)
  have Hcell := Lib.hid hcell
  clear hcell hr
  go_enter Tryd.func55, Tryd.ntmps55
  go_wp2
  go_loopw [12] (fun i wr => ∃ k : Nat, k ≤ 16 ∧ i = .int .i64 k ∧ BlkW wr (w.heap.size + 1) 65 (wpart b k) ∧ BlkW wr w.heap.size 65 (List.replicate 64 0) ∧ Below w.heap.size w wr) (fun i _ => 16 - (intOf i).toNat)
  case atStart => exact ⟨0, Nat.zero_le _, rfl, BlkW.new_ _ _ _ _ _ (by simp) (by rfl), BlkW.alloc (BlkW.new_ _ _ _ _ _ (by rfl) (by rfl)) _, ((Below.refl _ _).alloc (Nat.le_refl _) _).alloc (by simp) _⟩
  case round =>
    obtain ⟨k, hk, rfl, hB, hR, hbel⟩ := hrel
    by_cases hkl : k < 16
    · have HB := Lib.hid hB
      have HR := Lib.hid hR
      have Hbel := Lib.hid hbel
      clear hB hR hbel
      go_wp2
      go_loopw [6, 23] (fun x i wx => ∃ j : Nat, j ≤ 4 ∧ i = .int .i64 j ∧ BlkW wx (w.heap.size + 1) 65 ((wpart b k).set k (prt b (4 * k) j)) ∧ BlkW wx w.heap.size 65 (List.replicate 64 0) ∧ Below w.heap.size w wx) (fun _ i _ => 4 - (intOf i).toNat)
      case atStart => exact ⟨0, Nat.zero_le _, rfl, by rw [wpart_set0 b k hkl]; exact HB.out, HR.out, Hbel.out⟩
      case round =>
        obtain ⟨j, hj, rfl, hB2, hR2, hbel2⟩ := hrel
        have hlen : (wpart b k).length = 64 := wpart_len b k hk
        have Hlen := Lib.hid hlen
        have hc1 := hB2.cell k (by rw [List.length_set, hlen]; omega)
        have hf1 := hB2.frozen k
        have hg1 : g ((wpart b k).set k (prt b (4 * k) j)) k = prt b (4 * k) j := by unfold g; rw [List.getD_eq_getElem?_getD, List.getElem?_set_self (by omega)]; rfl
        rw [hg1] at hc1
        have hb1 := (hbel2.cell (p := ⟨ab, ao + (4 * k + j), none⟩) hab)
        by_cases hjl : j < 4
        · rw [Hcell.out (4 * k + j) (by omega), ← Nat.add_assoc] at hb1
          have HB2 := Lib.hid hB2
          have HR2 := Lib.hid hR2
          have Hbel2 := Lib.hid hbel2
          clear hB2 hR2 hbel2 hlen hg1
          go_wp2
          go_roundw
          case rel =>
            refine ⟨j + 1, by omega, by go_num, ?_, HR2.out.far (by simp) _, Hbel2.out.setCell (by simp) _⟩
            rw [← List.getD_eq_getElem?_getD]
            have := HB2.out.set_ k (prt b (4 * k) (j + 1))
            rw [List.set_set] at this
            exact this
          case measure => simp [intOf]; omega
        · have hj4 : j = 4 := by omega
          subst hj4
          rw [prt4, wpart_set4 b k hkl] at hB2
          have HB2 := Lib.hid hB2
          have HR2 := Lib.hid hR2
          have Hbel2 := Lib.hid hbel2
          clear hb1 hB2 hR2 hbel2 hc1 hf1 hg1 hjl hj hlen
          go_wp2
          go_roundw
          case rel => exact ⟨k + 1, by omega, by go_num, HB2.out, HR2.out, Hbel2.out⟩
          case measure => simp [intOf]; omega
    · have hk16 : k = 16 := by omega
      rw [hk16] at hB
      have HB := Lib.hid hB
      have HR := Lib.hid hR
      have Hbel := Lib.hid hbel
      clear hB hR hbel hk hk16
      go_wp2
      rw [← spart16] at HB
      go_loopw [7, 8, 9, 10, 11] (fun i _ _ _ _ wr => ∃ k : Nat, 16 ≤ k ∧ k ≤ 64 ∧ i = .int .i64 k ∧ BlkW wr (w.heap.size + 1) 65 (spart b k) ∧ BlkW wr w.heap.size 65 (List.replicate 64 0) ∧ Below w.heap.size w wr) (fun i _ _ _ _ _ => 64 - (intOf i).toNat)
      case atStart => exact ⟨16, Nat.le_refl _, by omega, rfl, HB.out, HR.out, Hbel.out⟩
      case round =>
        obtain ⟨k, hk16, hk, rfl, hB, hR, hbel⟩ := hrel
        by_cases hkl : k < 64
        · have hlen := spart_len b k hk16 hk
          have hc15 := hB.cell (k - 15) (by omega)
          have hc2 := hB.cell (k - 2) (by omega)
          have hc16 := hB.cell (k - 16) (by omega)
          have hc7 := hB.cell (k - 7) (by omega)
          have hck := hB.cell k (by omega)
          have hfk := hB.frozen k
          rw [spart_at b k _ hk16 (by omega)] at hc15 hc2 hc16 hc7
          have HB := Lib.hid hB
          have HR := Lib.hid hR
          have Hbel := Lib.hid hbel
          have Hlen := Lib.hid hlen
          clear hB hR hbel hlen
          go_wp2
          go_quiet (fail)
          go_wp2_with (go_at_call 56; refine (rot_any _ _ (by decide) _).mono ?_; rintro e w1 ⟨rfl, rfl⟩)
          go_region
          go_wp2
          go_roundw
          case rel =>
            refine ⟨k + 1, by omega, by omega, by go_num, ?_, (HR.out.drewN (nq + 1)).far (by simp) _, (below_drewN Hbel.out (nq + 1)).setCell (by simp) _⟩
            have := (HB.out.drewN (nq + 1)).set_ k (nextW (wl b k) k)
            rw [spart_set b k hk16 hkl] at this
            exact this
          case measure => simp [intOf]; omega
        · have hk64 : k = 64 := by omega
          subst hk64
          rw [spart64] at hB
          have hlen : (sched b).length = 64 := by rw [← spart64]; exact spart_len b 64 (by omega) (by omega)
          have HB := Lib.hid hB
          have HR := Lib.hid hR
          have Hbel := Lib.hid hbel
          have Hlen := Lib.hid hlen
          clear hB hR hbel hlen hkl hk hk16
          go_wp2_with (first
            | (refine wpList_loadW rfl 65 (.tmp 3) rfl (w.heap.size + 1) 65 (sched b) rfl HB.out _ Tryd.underlying65 rfl (by rw [Hlen.out]; kernel_rfl) ?_)
            | (refine wpList_storeW rfl 65 (.tmp 2) (.tmp 81) rfl w.heap.size 65 (List.replicate 64 0) (sched b) rfl rfl HR.out (by rw [Hlen.out]; rfl) (by rw [Hlen.out]; kernel_rfl) ?_; intro w5 hR5 hg5))
          refine bodyPost_ret (results_cell_row (p := 2) (ty := 65) (by kernel_rfl) _ w5 w.heap.size 65 (wvs (sched b)).toArray (0, 0) _ rfl hR5 Tryd.underlying65 rfl (by rw [List.size_toArray, wvs_len, Hlen.out]; kernel_rfl)) rfl ⟨rfl, Hbel.out.trans (below_of_only hg5 (Nat.le_refl _) Hbel.out.size)⟩
end Sm
end Go.Proofs.YtlkcibhdnicpkaaDoor

/- A fork of a hasher; the sum of parts. -/
import Derived.Test.YtlkcibhdnicpkaaDoorShs
import Derived.Test.YtlkcibhdnicpkaaDoorCanL
namespace Go.Proofs.YtlkcibhdnicpkaaDoor
namespace Sm
open Go.RowKit Ba
set_option linter.unusedVariables false
attribute [local go_sem] U_add U_add' U_xor U_and U_or U_of_u8
theorem st_list (l : List UInt8) : ∃ a b c d e f g h, st l = [a, b, c, d, e, f, g, h] := by
  have hl : (st l).length = 8 := stk_len _ _
  match hs : st l, hl with
  | [a, b, c, d, e, f, g, h], _ => exact ⟨a, b, c, d, e, f, g, h, rfl⟩
set_option maxRecDepth 100000 in
set_option maxHeartbeats 1000000 in
theorem fork_calls (w : World) (g : Nat) (l : List UInt8) (h : IsH w g l) : Calls Tryd.prog 20 #[.pointer (some ⟨g, 0, none⟩)] w
    fun e w' => ∃ g', e = .returned (.pointer (some ⟨g', 0, none⟩)) ∧ w.heap.size ≤ g' ∧ IsH w' g' l ∧ Below w.heap.size w w' := by
  have hgl := h.lt
  obtain ⟨A0, c0, h1, h2, h3, h4, h5⟩ := h
  obtain ⟨x0, x1, x2, x3, x4, x5, x6, x7, hst⟩ := st_list l
  rw [hst] at h1
  have hrl := rs_len l
  have hlen : (rs l).length ≤ 63 := by omega
  have k0 := cellP h1 0 (by simp)
  have k1 := cellP h1 1 (by simp)
  have k2 := cellP h1 2 (by simp)
  have k3 := cellP h1 3 (by simp)
  have k4 := cellP h1 4 (by simp)
  have k5 := cellP h1 5 (by simp)
  have k6 := cellP h1 6 (by simp)
  have k7 := cellP h1 7 (by simp)
  have k8 := cell8 h1 rfl
  have k9 := cell9 h1 rfl
  simp only [Sm.g, List.getD_cons_zero, List.getD_cons_succ] at k0 k1 k2 k3 k4 k5 k6 k7
  have Hst := Lib.hid hst
  have H1 := Lib.hid h1
  have H5 := Lib.hid h5
  have Hgl := Lib.hid hgl
  have hbw := Below.refl w.heap.size w
  have Hbw := Lib.hid hbw
  clear hrl hst h1 h2 h5 hgl hbw
  go_enter Tryd.func20, Tryd.ntmps20
  go_wp2_with fail
  refine CanL.region (fun w' => w'.cell? ⟨g, 0, none⟩ = some (.int .u32 (U x0)) ∧ w'.cell? ⟨g, 1, none⟩ = some (.int .u32 (U x1)) ∧ w'.cell? ⟨g, 2, none⟩ = some (.int .u32 (U x2)) ∧ w'.cell? ⟨g, 3, none⟩ = some (.int .u32 (U x3)) ∧ w'.cell? ⟨g, 4, none⟩ = some (.int .u32 (U x4)) ∧ w'.cell? ⟨g, 5, none⟩ = some (.int .u32 (U x5)) ∧ w'.cell? ⟨g, 6, none⟩ = some (.int .u32 (U x6)) ∧ w'.cell? ⟨g, 7, none⟩ = some (.int .u32 (U x7)) ∧ w'.cell? ⟨g, 8, none⟩ = some (.slice A0 (rs l).length c0) ∧ w'.cell? ⟨g, 9, none⟩ = some (.int .i64 (l.length : Int))) 1000 [(0, 2), (1, 2), (2, 2), (3, 1), (4, 2), (5, 2), (6, 2), (7, 1), (9, 2), (10, 2), (11, 2), (12, 1), (8, 0), (13, 2), (14, 0), (15, 2)] (by kernel_rfl) (by kernel_rfl) ⟨k0, k1, k2, k3, k4, k5, k6, k7, k8, k9⟩ ?_
  repeat (first | (refine CanL.skip rfl ?_ (fun K hK => ?_); (focus (go_simp; done)); go_simp; refine hK _ ?_; clear hK K) | (refine CanL.pur rfl ?_ ?_; (focus (go_simp; done)); refine ⟨?_, ?_, ?_⟩; rotate_left; (focus (intro w'; go_simp; rfl)); (focus (intro K hK; go_simp; refine hK _ ?_; clear hK K))) | (refine CanL.held rfl ?_ ?_; (focus (go_simp; done)); refine ⟨?_, ?_, ?_⟩; rotate_left; (focus (intro w' hS'; (try dsimp only at hS'); go_simp; rfl)); (focus (intro K hK; go_simp; refine hK _ ?_; clear hK K))) | (refine CanL.last rfl (fun K hK => ?_); go_simp; refine hK.out _ _ ?_; clear hK K) | (refine CanL.imp rfl (fun K hK => ?_); go_simp; (first | (go_at_call 43; refine (clone_calls (rs l) A0 c0 h3 (by omega) _ (H5.out.below (w' := w.drew) Hbw.out.drew).readB).mono ?_; rintro e w4 ⟨v4, rfl, ho4, hb4⟩; have hB4 := (Blk.drew H1.out).below hb4 Hgl.out; have hT4 := ho4; obtain ⟨A5, c5, rfl, q1, q2, q3, q4⟩ := ho4.opens; have Hq3 := Lib.hid q3; have Hq4 := Lib.hid q4; clear q3 q4)); go_simp; refine hK.out _ _ (⟨cellP hB4 0 (by simp), cellP hB4 1 (by simp), cellP hB4 2 (by simp), cellP hB4 3 (by simp), cellP hB4 4 (by simp), cellP hB4 5 (by simp), cellP hB4 6 (by simp), cellP hB4 7 (by simp), cell8 hB4 rfl, cell9 hB4 rfl⟩) ?_; clear hK K))
  refine CanL.imp rfl (fun K hK => ?_)
  go_simp
  refine hK.out _ _ ⟨cellP (Blk.alloc hB4 _) 0 (by simp), cellP (Blk.alloc hB4 _) 1 (by simp), cellP (Blk.alloc hB4 _) 2 (by simp), cellP (Blk.alloc hB4 _) 3 (by simp), cellP (Blk.alloc hB4 _) 4 (by simp), cellP (Blk.alloc hB4 _) 5 (by simp), cellP (Blk.alloc hB4 _) 6 (by simp), cellP (Blk.alloc hB4 _) 7 (by simp), cell8 (Blk.alloc hB4 _) rfl, cell9 (Blk.alloc hB4 _) rfl⟩ ?_
  clear hK K
  repeat (first | (refine CanL.skip rfl ?_ (fun K hK => ?_); (focus (go_simp; done)); go_simp; refine hK _ ?_; clear hK K) | (refine CanL.pur rfl ?_ ?_; (focus (go_simp; done)); refine ⟨?_, ?_, ?_⟩; rotate_left; (focus (intro w'; go_simp; rfl)); (focus (intro K hK; go_simp; refine hK _ ?_; clear hK K))) | (refine CanL.held rfl ?_ ?_; (focus (go_simp; done)); refine ⟨?_, ?_, ?_⟩; rotate_left; (focus (intro w' hS'; (try dsimp only at hS'); go_simp; rfl)); (focus (intro K hK; go_simp; refine hK _ ?_; clear hK K))) | (refine CanL.last rfl (fun K hK => ?_); go_simp; refine hK.out _ _ ?_; clear hK K) | (refine CanL.imp rfl (fun K hK => ?_); go_simp; (first | fail); go_simp; refine hK.out _ _ (trivial) ?_; clear hK K))
  refine CanL.done ?_
  go_wp2
  go_ret
  have hs : w.drew.heap.size = w.heap.size := rfl
  have hb : Below w.heap.size w w4 := Hbw.out.drew.trans hb4
  refine ⟨w4.heap.size, rfl, hb.size, ⟨A5, c5, ?_, by rw [Hst.out]; rfl, q1, q2, ReadT.below (ReadT.of_own hT4) ((Below.refl _ _).alloc (Nat.le_refl _) _)⟩, hb.alloc hb.size _⟩
  rw [Hst.out]
  exact heap_alloc_new _ _
set_option maxRecDepth 100000 in
set_option maxHeartbeats 1000000 in
theorem sum_nil (w : World) : Calls Tryd.prog 18 #[.pointer none] w fun e w' => e = .returned (.agg (bvs (List.replicate 32 0)).toArray) ∧ Below w.heap.size w w' := by
  go_enter Tryd.func18, Tryd.ntmps18
  go_wp2_with (first
    | (refine wpList_load_blk rfl 26 (.tmp 3) rfl (w.heap.size + 1) 0 26 [] (bvs (List.replicate 32 0)) [] rfl (by simpa using (by rw [bvs_rep32]; exact heap_alloc2_new _ _ _)) rfl _ Tryd.underlying26 rfl (by kernel_rfl) ?_)
    | (refine wpList_store_blk rfl 26 (.tmp 2) (.tmp 10) rfl w.heap.size 0 26 [] (bvs (List.replicate 32 0)) [] (bvs (List.replicate 32 0)) rfl rfl (by rw [bvs_rep32]; exact Blk.alloc (heap_alloc_new _ _) _) rfl rfl (by kernel_rfl) (bvs_one _) ?_; intro w9 hR9 hg9))
  have hb : Below w.heap.size w w9 := only_after (((Below.refl _ _).alloc (Nat.le_refl _) _).alloc (by simp) _) hg9 (Nat.le_refl _)
  refine bodyPost_ret (results_cell_row (p := 2) (ty := 26) (by kernel_rfl) _ w9 w.heap.size 26 (bvs (List.replicate 32 0)).toArray (0, 0) _ rfl (by simp only [List.nil_append, List.append_nil] at hR9; exact hR9) Tryd.underlying26 rfl (by kernel_rfl)) rfl ⟨rfl, hb⟩
theorem flat_take (ps : List (List UInt8)) (k : Nat) (h : k < ps.length) : (ps.take (k + 1)).flatten = (ps.take k).flatten ++ ps.getD k [] := by
  rw [List.take_succ_eq_append_getElem h, List.flatten_append]
  simp [List.getD, h]
theorem flat_le (ps : List (List UInt8)) (k : Nat) : (ps.take k).flatten.length ≤ ps.flatten.length := by
  have : ps.flatten = (ps.take k).flatten ++ (ps.drop k).flatten := by rw [← List.flatten_append, List.take_append_drop]
  rw [this, List.length_append]; omega
theorem hash_len : ∀ l, (sha l).length = 32 := fun l => out_len _
set_option maxRecDepth 100000 in
set_option maxHeartbeats 1000000 in
theorem of_calls (ps : List (List UInt8)) (A : Option Addr) (c : Nat) (w : World) (h : ReadBB w w.heap.size A ps) (htab : Tab w) (hpc : ps.length ≤ c) (hcm : c ≤ 9223372036854775807) (hm : ∀ p ∈ ps, p.length ≤ 140737488351232) (hsum : ps.flatten.length ≤ 1152921504606846975) :
    Calls Tryd.prog 14 #[.slice A ps.length c] w fun e w' => e = .returned (.agg (bvs (sha ps.flatten)).toArray) ∧ Below w.heap.size w w' := by
  have H := Lib.hid h
  have Htab := Lib.hid htab
  have Hm := Lib.hid hm
  clear h htab hm
  go_enter Tryd.func14, Tryd.ntmps14
  go_wp2_with fail
  refine (new_calls _).mono ?_
  rintro e w1 ⟨g, rfl, hg1, hI1, hb1⟩
  have hs0 : ∀ o, (w.alloc o).heap.size = w.heap.size + 1 := fun o => by simp
  rw [hs0] at hg1 hb1
  have hbw : Below w.heap.size w w1 := ((Below.refl _ _).alloc (Nat.le_refl _) _).trans (hb1.mono (by omega))
  have hR : Blk w1 w.heap.size 26 (bvs (List.replicate 32 0)).toArray := Blk.below (by rw [bvs_rep32]; exact heap_alloc_new _ _) hb1 (by omega)
  have HI1 := Lib.hid hI1
  have Hbw := Lib.hid hbw
  have HR := Lib.hid hR
  have Htab1 := Lib.hid (Htab.out.below hbw)
  clear hI1 hbw hR hs0 hb1
  have hg0 : 0 < g := by omega
  go_wp2_with fail
  go_loopw [5, 9] (fun _ i wr => ∃ k : Nat, k ≤ ps.length ∧ i = .int .i64 k ∧ IsH wr g (ps.take k).flatten ∧ w1.grownBy wr (some g)) (fun _ i _ => ps.length - (intOf i).toNat)
  case atStart => exact ⟨0, Nat.zero_le _, rfl, HI1.out, World.grownBy.refl w1 _⟩
  case round =>
    obtain ⟨k, hk, rfl, hI, hgw⟩ := hrel
    have hbr : Below w.heap.size w wr := Hbw.out.trans (below_of_only hgw (by omega) Hbw.out.size)
    by_cases hkl : k < ps.length
    · obtain ⟨b, o, rfl, hb, hc⟩ := H.out (by omega)
      obtain ⟨Ak, ck, q1, q2, q3, q4⟩ := hc k hkl
      have hq1 := (hbr.cell (p := ⟨b, o + k, none⟩) hb).trans q1
      have hft := flat_take ps k hkl
      have hfl := flat_le ps (k + 1)
      rw [hft, List.length_append] at hfl
      have hlk : (ps.getD k []).length ≤ 140737488351232 := Hm.out _ (by simp [List.getD, hkl])
      have hq4 := q4.below hbr
      have Hft := Lib.hid hft
      generalize ps.getD k [] = pk at *
      have HI := Lib.hid hI
      have Hgw := Lib.hid hgw
      have Hbr := Lib.hid hbr
      have Hq4 := Lib.hid hq4
      have Htr := Lib.hid (Htab1.out.grown hgw hg0)
      clear hI hgw hbr hc q1 q4 hq4 hft
      go_wp2_with fail
      refine (write_calls wr g w.heap.size (ps.take k).flatten pk Ak ck HI.out hg0 Htr.out Hq4.out (by omega) q2 q3 hlk (by omega)).mono ?_
      rintro e w5 ⟨rfl, hI5, hg5⟩
      have HI5 := Lib.hid hI5
      have Hg5 := Lib.hid (only_trans Hgw.out hg5)
      clear hI5 hg5
      go_wp2
      go_roundw
      case rel => exact ⟨k + 1, by omega, by go_num, by rw [Hft.out]; exact HI5.out, Hg5.out⟩
      case measure => simp [intOf]; omega
    · have hkk : k = ps.length := by omega
      rw [hkk, List.take_length] at hI
      have Htr := Lib.hid (Htab1.out.grown hgw hg0)
      have HI := Lib.hid hI
      have HRr := Lib.hid (HR.out.grown hgw (by simp; omega))
      have Hbr := Lib.hid hbr
      clear hI hgw hbr hkk hk
      go_wp2_with fail
      refine (sum_calls wr g ps.flatten HI.out hg0 Htr.out hsum).mono ?_
      rintro e w5 ⟨rfl, hb5⟩
      have hR5 := HRr.out.below hb5 HRr.out.lt
      have HR5 := Lib.hid hR5
      have Hb5 := Lib.hid (Hbr.out.trans (hb5.mono Hbr.out.size))
      clear hR5 hb5
      have hlo := hash_len ps.flatten
      have Hlo := Lib.hid hlo
      clear hlo
      go_wp2_with (refine wpList_store_blk rfl 26 (.tmp 2) (.tmp 18) rfl w.heap.size 0 26 [] (bvs (List.replicate 32 0)) [] (bvs (sha ps.flatten)) rfl rfl (by simpa using HR5.out) rfl (by rw [bvs_length, bvs_length, Hlo.out]; rfl) (by rw [bvs_length, Hlo.out]; kernel_rfl) (bvs_one _) ?_; intro w9 hR9 hg9)
      refine bodyPost_ret (results_cell_row (p := 2) (ty := 26) (by kernel_rfl) _ w9 w.heap.size 26 (bvs (sha ps.flatten)).toArray (0, 0) _ rfl (by simp only [List.nil_append, List.append_nil] at hR9; exact hR9) Tryd.underlying26 rfl (by rw [List.size_toArray, bvs_length, Hlo.out]; kernel_rfl)) rfl ⟨rfl, Hb5.out.trans (below_of_only hg9 (Nat.le_refl _) Hb5.out.size)⟩
end Sm
end Go.Proofs.YtlkcibhdnicpkaaDoor

/- A sum with a key, by the program: the walk of mac.Of. -/
import Derived.Test.YtlkcibhdnicpkaaDoorMkit
namespace Go.Proofs.YtlkcibhdnicpkaaDoor
namespace Mc
open Go.RowKit Ba Sm
set_option linter.unusedVariables false
set_option maxRecDepth 100000 in
set_option maxHeartbeats 4000000 in
theorem mof_calls (k : List UInt8) (A : Option Addr) (c : Nat) (ps : List (List UInt8)) (Ap : Option Addr) (cp : Nat) (w : World) (hr : ReadB w w.heap.size A k) (h : ReadBB w w.heap.size Ap ps) (htab : Tab w) (hkc : k.length ≤ c) (hkc2 : c ≤ 9223372036854775807) (hkm : k.length ≤ 140737488351232)
    (hpc : ps.length ≤ cp) (hcm : cp ≤ 9223372036854775807) (hm : ∀ p ∈ ps, p.length ≤ 140737488351232) (hsum : ps.flatten.length ≤ 576460752303423487) :
    Calls Tryd.prog 28 #[.slice A k.length c, .slice Ap ps.length cp] w fun e w' => e = .returned (.agg (bvs (hmac k ps.flatten)).toArray) ∧ Below w.heap.size w w' := by
  have hKl : (mkey k).length ≤ 64 := by
    unfold mkey
    by_cases h0 : 64 < k.length
    · rw [if_pos h0, hash_len]; omega
    · rw [if_neg h0]; omega
  have hml := fun x => mpad_len (mkey k) x
  unfold hmac
  obtain ⟨K, hK⟩ : ∃ K, K = mkey k := ⟨_, rfl⟩
  rw [← hK] at hKl hml ⊢
  have Hr := Lib.hid hr
  have H := Lib.hid h
  have Htab := Lib.hid htab
  have Hm := Lib.hid hm
  have HKl := Lib.hid hKl
  have h54 := hml 0x36
  have h92 := hml 0x5c
  obtain ⟨P, hP⟩ : ∃ P, P = mpad K 0x36 := ⟨_, rfl⟩
  obtain ⟨R, hR⟩ : ∃ R, R = mpad K 0x5c := ⟨_, rfl⟩
  rw [← hP] at h54
  rw [← hR] at h92
  rw [← hP, ← hR]
  have HP := Lib.hid hP
  have HR := Lib.hid hR
  have H54 := Lib.hid h54
  have H92 := Lib.hid h92
  have Hsum := Lib.hid hsum
  clear hr h htab hm hKl hml hP hR h54 h92 hsum
  have hs0 : ∀ o, (w.alloc o).heap.size = w.heap.size + 1 := fun o => by simp
  by_cases h64 : 64 < k.length
  focus
      have hKk : K = sha k := by rw [hK, mkey, if_pos h64]
      have hl32 : 32 = K.length := by rw [hKk, hash_len]
      rw [hKk] at hl32
      have HKk := Lib.hid hKk
      have Hl32 := Lib.hid hl32
      clear hK hKk hl32
      go_enter Tryd.func28, Tryd.ntmps28
      go_wp2_with fail
      refine Calls.mono (of1 (W := w.alloc _) (k := k) (by simp) rfl (Hr.out.alloc (Nat.le_refl _) _ |>.more (by simp)) (Htab.out.below ((Below.refl _ _).alloc (Nat.le_refl _) _)) hkc hkc2 hkm) ?_
      rintro e w1 ⟨rfl, hb1⟩
      rw [hs0] at hb1
      have Hb1 := Lib.hid (((Below.refl _ _).alloc (Nat.le_refl _) _).trans (hb1.mono (Nat.le_succ _)))
      have HZ1 : Hid (Blk w1 w.heap.size 26 (bvs (List.replicate 32 0)).toArray) := Lib.hid (Blk.below (by rw [bvs_rep32]; exact heap_alloc_new _ _) hb1 (by omega))
      rw [← HKk.out]
      clear hb1
      go_wp2_with (refine wpList_store_blk rfl 26 (.tmp 5) (.tmp 15) rfl w1.heap.size 0 26 [] (bvs (List.replicate 32 0)) [] (bvs K) rfl rfl (by rw [bvs_rep32]; exact heap_alloc_new _ _) rfl (by rw [bvs_length, bvs_length, HKk.out, ← Hl32.out]; rfl) (by rw [bvs_length, HKk.out, ← Hl32.out]; kernel_rfl) (bvs_one _) ?_; intro w2 hX2 hg2)
      have hk2 := after_store Hb1.out hg2 rfl
      have hZ2 := grown_ne (HZ1.out.alloc _) hg2 (Nat.ne_of_lt HZ1.out.lt)
      have hr2 : ReadB w2 w2.heap.size (some ⟨w1.heap.size, 0, none⟩) K := readB_of (by simpa using hX2)
      have hn : 32 = K.length := by rw [HKk.out]; exact Hl32.out
      have hc : K.length ≤ 32 := by omega
      clear hX2 hg2 HZ1
      refine (new_calls _).mono ?_
      rintro e w3 ⟨g, rfl, hg1, hI, hb3⟩
      have hg0 : w.heap.size < g := by have := hk2.1.size; have := hk2.2; have := Hb1.out.size; omega
      have HZ := Lib.hid (hZ2.below hb3 (by have := hZ2.lt; omega))
      have HB := Lib.hid (hk2.1.trans (hb3.mono hk2.1.size))
      have HRK := Lib.hid ((hr2.below hb3).more hg1)
      have HI := Lib.hid hI
      have HN := Lib.hid hn
      have Hc := Lib.hid hc
      clear hk2 hZ2 hr2 hn hb3 hI hg1 hc Hb1
      generalize w1.heap.size = gk at *
  rotate_left
  focus
      have hkk : K = k := by rw [hK, mkey, if_neg h64]
      have hn : k.length = K.length := by rw [hkk]
      rw [← hkk] at Hr
      clear hK hkk
      go_enter Tryd.func28, Tryd.ntmps28
      go_wp2_with fail
      refine (new_calls _).mono ?_
      rintro e w3 ⟨g, rfl, hg1, hI, hb3⟩
      rw [hs0] at hg1 hb3
      have hg0 : w.heap.size < g := by omega
      have HZ : Hid (Blk w3 w.heap.size 26 (bvs (List.replicate 32 0)).toArray) := Lib.hid (Blk.below (by rw [bvs_rep32]; exact heap_alloc_new _ _) hb3 (by omega))
      have HB := Lib.hid (((Below.refl _ _).alloc (Nat.le_refl _) _).trans (hb3.mono (Nat.le_succ _)))
      have HRK := Lib.hid ((Hr.out.below HB.out).more (Nat.le_of_lt hg0))
      have HI := Lib.hid hI
      have Hc := Lib.hid (show K.length ≤ c by omega)
      have HN := Lib.hid hn
      clear hn hb3 hI hg1
  all_goals
    have htab3 := Htab.out.below HB.out
    have Htab3 := Lib.hid htab3
    clear htab3
    go_wp2_with fail
    refine (padN (k := K) 0x36 _ w3 HN.out (by rfl) HKl.out (HRK.out.more (Nat.le_of_lt HI.out.lt))).mono ?_
    rintro e w4 ⟨g4, rfl, hg4, hP4, hb4⟩
    rw [← HP.out] at hP4
    have HI4 := Lib.hid (IsG.below HI.out hb4)
    have HP4 := Lib.hid (readT_blk hP4)
    have HZ4 := Lib.hid (HZ.out.below hb4 HZ.out.lt)
    have HB4 := Lib.hid (HB.out.trans (hb4.mono HB.out.size))
    have HRK4 := Lib.hid (HRK.out.below (hb4.mono (Nat.le_of_lt HI.out.lt)))
    have Htab4 := Lib.hid (Htab3.out.below hb4)
    clear hP4 hb4 hg4 HI HZ HRK Htab3 HB
    have hgp : 0 < g := by omega
    go_wp2_with fail
    refine (writeN (b := P) (l := []) (by rw [H54.out]) HI4.out hgp Htab4.out HP4.out (by rw [H54.out]; omega) (by omega) (by rw [H54.out]; omega) (by rw [H54.out]; simp)).mono ?_
    rintro e w5 ⟨rfl, hI5, hg5⟩
    rw [List.nil_append] at hI5
    have HI5 := Lib.hid hI5
    have HZ5 := Lib.hid (grown_ne HZ4.out hg5 (by omega))
    have HB5 := Lib.hid (HB4.out.trans (below_of_only hg5 (by omega) HB4.out.size))
    have HRK5 := Lib.hid (HRK4.out.only hg5 (Nat.le_refl _) (Nat.le_of_lt HI4.out.lt))
    have Htab5 := Lib.hid (Htab4.out.grown hg5 hgp)
    clear hI5 hg5 HI4 HZ4 HB4 HRK4 Htab4 HP4
    go_wp2_with fail
    go_loopw [8, 24] (fun _ i wr => ∃ j : Nat, j ≤ ps.length ∧ i = .int .i64 j ∧ IsH wr g (P ++ (ps.take j).flatten) ∧ w5.grownBy wr (some g)) (fun _ i _ => ps.length - (intOf i).toNat)
    case atStart => exact ⟨0, Nat.zero_le _, rfl, by simpa using HI5.out, World.grownBy.refl w5 _⟩
    case round =>
      obtain ⟨j, hj, rfl, hI, hgw⟩ := hrel
      have hbr : Below w.heap.size w wr := HB5.out.trans (below_of_only hgw (by omega) HB5.out.size)
      by_cases hjl : j < ps.length
      · obtain ⟨b, o, rfl, hb, hcs⟩ := H.out (by omega)
        obtain ⟨Ak, ck, q1, q2, q3, q4⟩ := hcs j hjl
        have hq1 := (hbr.cell (p := ⟨b, o + j, none⟩) hb).trans q1
        have hft := flat_take ps j hjl
        have hfl := flat_le ps (j + 1)
        rw [hft, List.length_append] at hfl
        have hlk : (ps.getD j []).length ≤ 140737488351232 := Hm.out _ (by simp [List.getD, hjl])
        have hq4 := q4.below hbr
        have hs5 := Hsum.out
        have Hft := Lib.hid hft
        generalize ps.getD j [] = pk at *
        have HI := Lib.hid hI
        have Hgw := Lib.hid hgw
        have Hbr := Lib.hid hbr
        have Hq4 := Lib.hid hq4
        have Htr := Lib.hid (Htab5.out.grown hgw hgp)
        have hle : (P ++ (ps.take j).flatten).length + pk.length ≤ 4611686018427387904 := by rw [List.length_append, H54.out]; omega
        clear hI hgw hbr hcs q1 q4 hq4 hft hs5
        go_wp2_with fail
        refine (write_calls wr g w.heap.size _ pk Ak ck HI.out hgp Htr.out Hq4.out (by omega) q2 q3 hlk hle).mono ?_
        rintro e w6 ⟨rfl, hI6, hg6⟩
        have HI6 := Lib.hid hI6
        have Hg6 := Lib.hid (only_trans Hgw.out hg6)
        clear hI6 hg6
        go_wp2
        go_roundw
        case rel => exact ⟨j + 1, by omega, by go_num, by rw [Hft.out, ← List.append_assoc]; exact HI6.out, Hg6.out⟩
        case measure => simp [intOf]; omega
      · have hjj : j = ps.length := by omega
        rw [hjj, List.take_length] at hI
        have Htr := Lib.hid (Htab5.out.grown hgw hgp)
        have HI := Lib.hid hI
        have HZr := Lib.hid (grown_ne HZ5.out hgw (by omega))
        have Hbr := Lib.hid hbr
        have HRr := Lib.hid (HRK5.out.only hgw (Nat.le_refl _) (Nat.le_of_lt HI5.out.lt))
        have hle : (P ++ ps.flatten).length ≤ 1152921504606846975 := by rw [List.length_append, H54.out]; have := Hsum.out; omega
        clear hI hgw hbr hjj hj
        go_wp2_with fail
        refine (sum_calls wr g _ HI.out hgp Htr.out hle).mono ?_
        rintro e w6 ⟨rfl, hb6⟩
        obtain ⟨D, hD⟩ : ∃ D, D = sha (P ++ ps.flatten) := ⟨_, rfl⟩
        have hD32 : D.length = 32 := by rw [hD]; exact hash_len _
        rw [← hD]
        have HD := Lib.hid hD
        have HD32 := Lib.hid hD32
        have HZ6 := Lib.hid (HZr.out.below hb6 HZr.out.lt)
        have HB6 := Lib.hid (Hbr.out.trans (hb6.mono Hbr.out.size))
        have HR6 := Lib.hid (HRr.out.below (hb6.mono (Nat.le_of_lt HI.out.lt)))
        have Htab6 := Lib.hid (Htr.out.below hb6)
        have Hg6 := Lib.hid (Nat.lt_of_lt_of_le HI.out.lt hb6.size)
        clear hb6 HZr Hbr HRr Htr hD hD32 HI
        go_wp2_with (refine wpList_store_blk rfl 26 (.tmp 9) (.tmp 33) rfl w6.heap.size 0 26 [] (bvs (List.replicate 32 0)) [] (bvs D) rfl rfl (by rw [bvs_rep32]; exact heap_alloc_new _ _) rfl (by rw [bvs_length, bvs_length, HD32.out]; rfl) (by rw [bvs_length, HD32.out]; kernel_rfl) (bvs_one _) ?_; intro w7 hX7 hg7)
        have hk7 := after_store HB6.out hg7 rfl
        have HZ7 := Lib.hid (grown_ne (HZ6.out.alloc _) hg7 (Nat.ne_of_lt HZ6.out.lt))
        have HD7 := Lib.hid (show ReadB w7 w7.heap.size (some ⟨w6.heap.size, 0, none⟩) D from readB_of (by simpa using hX7))
        have HB7 := Lib.hid hk7.1
        have hb67 : Below w6.heap.size w6 w7 := only_after ((Below.refl _ _).alloc (Nat.le_refl _) _) hg7 (Nat.le_refl _)
        have HR7 := Lib.hid (HR6.out.below (hb67.mono (Nat.le_of_lt Hg6.out)))
        have Htab7 := Lib.hid (Htab6.out.below hb67)
        have Hg7 := Lib.hid (Nat.lt_of_lt_of_le Hg6.out hb67.size)
        clear hX7 hg7 hk7 hb67 HZ6 HB6 HR6 Htab6 Hg6
        generalize w6.heap.size = gd at *
        refine CanT.region (fun _ => True) 5 (.op 0 2 (.op 2 2 (.op 1 0 (.op 3 0 (.op 4 0 (.op 5 0 (.nil))))))) (by kernel_rfl) (by kernel_rfl) trivial ?_
        have HZd : Hid (Blk w7.drew w.heap.size 26 (bvs (List.replicate 32 0)).toArray) := HZ7
        have HDd : Hid (ReadB w7.drew w7.drew.heap.size (some ⟨gd, 0, none⟩) D) := HD7
        have HBd := Lib.hid HB7.out.drew
        have HRd := Lib.hid (HR7.out.drew)
        have Htd : Hid (Tab w7.drew) := Lib.hid ⟨Htab7.out.1, Htab7.out.2⟩
        have Hgd : Hid (g < w7.drew.heap.size) := Hg7
        clear HZ7 HD7 HB7 HR7 Htab7 Hg7
        generalize w7.drew = W7 at *
        repeat (first | (refine CanT.skip rfl ?_ (fun K hK => ?_); (focus (go_simp; done)); go_simp; refine hK _ ?_; clear hK K) | (refine CanT.pur rfl ?_ ?_; (focus (go_simp; done)); refine ⟨?_, ?_, ?_⟩; rotate_left; (focus (intro w'; go_simp; rfl)); (focus (intro K hK; go_simp; refine hK _ ?_; clear hK K))) | (refine CanT.held rfl ?_ ?_; (focus (go_simp; done)); refine ⟨?_, ?_, ?_⟩; rotate_left; (focus (intro w' hS'; (try dsimp only at hS'); go_simp; rfl)); (focus (intro K hK; go_simp; refine hK _ ?_; clear hK K))) | (refine CanT.last rfl (fun K hK => ?_); go_simp; refine hK.out _ _ ?_; clear hK K))
        refine CanT.imp rfl (fun J hJ => ?_)
        go_simp
        refine (padN (k := K) 0x5c _ W7 HN.out (by rfl) HKl.out (HRd.out.more (Nat.le_of_lt Hgd.out))).mono ?_
        rintro e w8 ⟨g8, rfl, hg8, hP8, hb8⟩
        rw [← HR.out] at hP8
        have HP8 := Lib.hid (readB_of hP8)
        have HZ8 := Lib.hid (HZd.out.below hb8 HZd.out.lt)
        have HD8 := Lib.hid ((HDd.out.below hb8).more hb8.size)
        have HB8 := Lib.hid (HBd.out.trans (hb8.mono HBd.out.size))
        have Ht8 := Lib.hid (Htd.out.below hb8)
        clear hP8 hb8 hg8
        go_simp
        refine hJ.out _ _ trivial ?_
        clear hJ J
        refine CanT.imp rfl (fun J hJ => ?_)
        go_simp
        refine hJ.out _ _ trivial ?_
        clear hJ J
        refine CanT.imp rfl (fun J hJ => ?_)
        go_simp
        refine (of2 (W := w8) (k1 := R) (k2 := D) (by rfl) (by rw [H92.out]) (by rw [HD32.out]) HP8.out HD8.out Ht8.out (by rw [H92.out]; omega) (by rw [HD32.out]; omega) (by omega) (by omega) (by rw [H92.out]; omega) (by rw [HD32.out]; omega)).mono ?_
        rw [HD.out]
        rintro e w9 ⟨rfl, hb9⟩
        obtain ⟨E, hE⟩ : ∃ E, E = sha (R ++ sha (P ++ ps.flatten)) := ⟨_, rfl⟩
        have hE32 : E.length = 32 := by rw [hE]; exact hash_len _
        rw [← hE]
        have HE := Lib.hid hE
        have HE32 := Lib.hid hE32
        have HZ9 := Lib.hid (HZ8.out.below hb9 HZ8.out.lt)
        have HB9 := Lib.hid (HB8.out.trans (hb9.mono HB8.out.size))
        clear hb9 hE hE32 HZ8 HB8 HP8 HD8 Ht8
        go_simp
        refine hJ.out _ _ trivial ?_
        clear hJ J
        refine CanT.lastR rfl ?_ 26 (.tmp 4) (.tmp 38) rfl w.heap.size 0 26 [] (bvs (List.replicate 32 0)) [] (bvs E) rfl rfl (by simpa using HZ9.out) rfl (by rw [bvs_length, bvs_length, HE32.out]; rfl) (by rw [bvs_length, HE32.out]; kernel_rfl) (bvs_one _) ?_
        focus go_simp
        intro w10 hX10 hg10
        refine CanT.done ?_
        go_wp2
        refine bodyPost_ret (results_cell_row (p := 4) (ty := 26) (by kernel_rfl) _ w10 w.heap.size 26 (bvs E).toArray (0, 0) _ rfl (by simp only [List.nil_append, List.append_nil] at hX10; exact hX10) Tryd.underlying26 rfl (by rw [List.size_toArray, bvs_length, HE32.out]; kernel_rfl)) rfl ⟨by rw [HE.out], HB9.out.trans (below_of_only hg10 (Nat.le_refl _) HB9.out.size)⟩
end Mc
end Go.Proofs.YtlkcibhdnicpkaaDoor

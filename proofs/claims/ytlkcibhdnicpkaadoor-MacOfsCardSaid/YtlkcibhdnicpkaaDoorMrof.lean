/- A sum with a key, by the document's answer: the walk of its Of. -/
import Derived.Test.YtlkcibhdnicpkaaDoorMkit2
namespace Go.Proofs.YtlkcibhdnicpkaaDoor
namespace Mc
open Go.RowKit Ba Sm
set_option linter.unusedVariables false
set_option maxRecDepth 100000 in
set_option maxHeartbeats 4000000 in
theorem rmof_calls (k b : List UInt8) (A Ab : Option Addr) (c cb : Nat) (w : World) (hr : ReadB w w.heap.size A k) (hrb : ReadB w w.heap.size Ab b) (hkc : k.length ≤ c) (hkm : k.length ≤ 140737488351232) (hbm : b.length ≤ 140737488351168) :
    Calls Tryd.prog 29 #[.slice A k.length c, .slice Ab b.length cb] w fun e w' => e = .returned (.agg (bvs (hmac k b)).toArray) ∧ Below w.heap.size w w' := by
  obtain ⟨i0, hi0⟩ := isByte_of info5
  have Hi := Lib.hid hi0
  unfold hmac
  have h54 := mpad_len (mkey k) 0x36
  have h92 := mpad_len (mkey k) 0x5c
  obtain ⟨P, hP⟩ : ∃ P, P = mpad (mkey k) 0x36 := ⟨_, rfl⟩
  obtain ⟨R, hR⟩ : ∃ R, R = mpad (mkey k) 0x5c := ⟨_, rfl⟩
  rw [← hP] at h54
  rw [← hR] at h92
  rw [← hP, ← hR]
  have Hr := Lib.hid hr
  have Hb := Lib.hid hrb
  have HP := Lib.hid hP
  have HR := Lib.hid hR
  have H54 := Lib.hid h54
  have H92 := Lib.hid h92
  have hs0 : ∀ o, (w.alloc o).heap.size = w.heap.size + 1 := fun o => by simp
  clear hr hrb hP hR h54 h92 hi0
  go_enter Tryd.func29, Tryd.ntmps29
  go_wp2_with fail
  refine (rpadN (k := k) 0x36 _ _ rfl (by rfl) hkc hkm ((Hr.out.alloc (Nat.le_refl _) _).more (by simp))).mono ?_
  rintro e w1 ⟨g1, rfl, ho1, hb1⟩
  rw [hs0] at hb1 ho1
  rw [← HP.out] at ho1
  have HZ1 : Hid (Blk w1 w.heap.size 26 (bvs (List.replicate 32 0)).toArray) := Lib.hid (Blk.below (by rw [bvs_rep32]; exact heap_alloc_new _ _) hb1 (by omega))
  have HB1 := Lib.hid (((Below.refl _ _).alloc (Nat.le_refl _) _).trans (hb1.mono (Nat.le_succ _)))
  have Hb1 := Lib.hid (Hb.out.below HB1.out)
  have HO1 := Lib.hid ho1
  clear ho1 hb1
  go_wp2_with (at_builtin; go_loud (refine wpList_appB _ rfl (.tmp 7) (.tmp 8) 22 rfl (w.heap.size + 1) 5 i0 Tryd.underlying22 Hi.out _ P rfl HO1.out w.heap.size Ab _ cb b rfl rfl Hb1.out (by rw [H54.out]; omega) (by have := HZ1.out.lt; omega) ?_); intro v2 w2 ho2 _ _ hb2; have HO2 := Lib.hid ho2; have HZ2 := Lib.hid (HZ1.out.below hb2 (Nat.lt_succ_self _)); have HB2 := Lib.hid (HB1.out.trans (hb2.mono (Nat.le_succ _))); clear ho2 hb2)
  have hle : (P ++ b).length ≤ 140737488351232 := by rw [List.length_append, H54.out]; omega
  refine (rof_own HO2.out hle).mono ?_
  rintro e w3 ⟨rfl, hb3⟩
  obtain ⟨D, hD⟩ : ∃ D, D = sha (P ++ b) := ⟨_, rfl⟩
  have hD32 : D.length = 32 := by rw [hD]; exact hash_len _
  rw [← hD]
  have HD := Lib.hid hD
  have HD32 := Lib.hid hD32
  have HZ3 := Lib.hid (HZ2.out.below hb3 HZ2.out.lt)
  have HB3 := Lib.hid (HB2.out.trans (hb3.mono HB2.out.size))
  clear hb3 HZ1 HB1 HZ2 HB2 HO1 HO2 hD hD32 hle Hb1
  go_wp2_with (refine wpList_store_blk rfl 26 (.tmp 5) (.tmp 10) rfl w3.heap.size 0 26 [] (bvs (List.replicate 32 0)) [] (bvs D) rfl rfl (by rw [bvs_rep32]; exact heap_alloc_new _ _) rfl (by rw [bvs_length, bvs_length, HD32.out]; rfl) (by rw [bvs_length, HD32.out]; kernel_rfl) (bvs_one _) ?_; intro w4 hX4 hg4)
  have hk4 := after_store HB3.out hg4 rfl
  have hz4 := grown_ne (HZ3.out.alloc _) hg4 (Nat.ne_of_lt HZ3.out.lt)
  have HZ4 : Hid (Blk w4.drew w.heap.size 26 (bvs (List.replicate 32 0)).toArray) := Lib.hid hz4
  have hd4 : ReadB w4 w4.heap.size (some ⟨w3.heap.size, 0, none⟩) D := readB_of (by simpa using hX4)
  have HD4 : Hid (ReadB w4.drew w4.drew.heap.size (some ⟨w3.heap.size, 0, none⟩) D) := Lib.hid hd4
  have HB4 := Lib.hid hk4.1.drew
  have HK4 := Lib.hid ((Hr.out.below HB4.out).more HB4.out.size)
  clear hX4 hg4 hk4 hz4 hd4 HZ3 HB3
  generalize w3.heap.size = gd at *
  refine CanT.region (fun _ => True) 5 (.op 0 2 (.op 2 2 (.op 1 0 (.op 3 0 (.op 4 0 (.op 5 0 (.nil))))))) (by kernel_rfl) (by kernel_rfl) trivial ?_
  generalize w4.drew = W4 at *
  repeat (first | (refine CanT.skip rfl ?_ (fun K hK => ?_); (focus (go_simp; done)); go_simp; refine hK _ ?_; clear hK K) | (refine CanT.pur rfl ?_ ?_; (focus (go_simp; done)); refine ⟨?_, ?_, ?_⟩; rotate_left; (focus (intro w'; go_simp; rfl)); (focus (intro K hK; go_simp; refine hK _ ?_; clear hK K))) | (refine CanT.held rfl ?_ ?_; (focus (go_simp; done)); refine ⟨?_, ?_, ?_⟩; rotate_left; (focus (intro w' hS'; (try dsimp only at hS'); go_simp; rfl)); (focus (intro K hK; go_simp; refine hK _ ?_; clear hK K))) | (refine CanT.last rfl (fun K hK => ?_); go_simp; refine hK.out _ _ ?_; clear hK K))
  refine CanT.imp rfl (fun J hJ => ?_)
  go_simp
  refine (rpadN (k := k) 0x5c _ W4 rfl (by rfl) hkc hkm HK4.out).mono ?_
  rintro e w5 ⟨g5, rfl, ho5, hb5⟩
  rw [← HR.out] at ho5
  have HO5 := Lib.hid ho5
  have HZ5 := Lib.hid (HZ4.out.below hb5 HZ4.out.lt)
  have HD5 := Lib.hid ((HD4.out.below hb5))
  have HB5 := Lib.hid (HB4.out.trans (hb5.mono HB4.out.size))
  have HL5 := Lib.hid hb5.size
  have HL4 := Lib.hid HZ4.out.lt
  clear ho5 hb5 HZ4 HD4 HB4 HK4
  go_simp
  refine hJ.out _ _ trivial ?_
  clear hJ J
  refine CanT.imp rfl (fun J hJ => ?_)
  refine cstep_appB _ rfl (.tmp 12) (.tmp 13) 22 rfl W4.heap.size 5 i0 Tryd.underlying22 Hi.out _ R rfl HO5.out W4.heap.size _ 32 32 D rfl (by rw [HD32.out]) HD5.out (by rw [H92.out, HD32.out]; omega) HL5.out ?_
  intro v6 w6 ho6 _ _ hb6
  have HO6 := Lib.hid ho6
  have HZ6 := Lib.hid (HZ5.out.below hb6 HL4.out)
  have HB6 := Lib.hid (HB5.out.trans (hb6.mono (Nat.le_of_lt HL4.out)))
  clear ho6 hb6 HO5 HZ5 HB5
  go_simp
  refine hJ.out _ _ trivial ?_
  clear hJ J
  have hle : (R ++ D).length ≤ 140737488351232 := by rw [List.length_append, H92.out, HD32.out]; omega
  refine CanT.imp rfl (fun J hJ => ?_)
  go_simp
  refine (rof_own HO6.out hle).mono ?_
  rw [HD.out]
  rintro e w9 ⟨rfl, hb9⟩
  obtain ⟨E, hE⟩ : ∃ E, E = sha (R ++ sha (P ++ b)) := ⟨_, rfl⟩
  have hE32 : E.length = 32 := by rw [hE]; exact hash_len _
  rw [← hE]
  have HE := Lib.hid hE
  have HE32 := Lib.hid hE32
  have HZ9 := Lib.hid (HZ6.out.below hb9 HZ6.out.lt)
  have HB9 := Lib.hid (HB6.out.trans (hb9.mono HB6.out.size))
  clear hb9 hE hE32 HZ6 HB6 HO6 hle
  go_simp
  refine hJ.out _ _ trivial ?_
  clear hJ J
  refine CanT.lastR rfl ?_ 26 (.tmp 4) (.tmp 15) rfl w.heap.size 0 26 [] (bvs (List.replicate 32 0)) [] (bvs E) rfl rfl (by simpa using HZ9.out) rfl (by rw [bvs_length, bvs_length, HE32.out]; rfl) (by rw [bvs_length, HE32.out]; kernel_rfl) (bvs_one _) ?_
  focus go_simp
  intro w10 hX10 hg10
  refine CanT.done ?_
  go_wp2
  refine bodyPost_ret (results_cell_row (p := 4) (ty := 26) (by kernel_rfl) _ w10 w.heap.size 26 (bvs E).toArray (0, 0) _ rfl (by simp only [List.nil_append, List.append_nil] at hX10; exact hX10) Tryd.underlying26 rfl (by rw [List.size_toArray, bvs_length, HE32.out]; kernel_rfl)) rfl ⟨by rw [HE.out], HB9.out.trans (below_of_only hg10 (Nat.le_refl _) HB9.out.size)⟩
end Mc
end Go.Proofs.YtlkcibhdnicpkaaDoor

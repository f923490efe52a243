/- A key of a key, by the program and by the document's answer: the walks of Label. -/
import Derived.Test.YtlkcibhdnicpkaaDoorG01
import Derived.Test.YtlkcibhdnicpkaaDoorG02
import Derived.Test.YtlkcibhdnicpkaaDoorG03
import Derived.Test.YtlkcibhdnicpkaaDoorG04
import Derived.Test.YtlkcibhdnicpkaaDoorG05
import Derived.Test.YtlkcibhdnicpkaaDoorG06
import Derived.Test.YtlkcibhdnicpkaaDoorG07
import Derived.Test.YtlkcibhdnicpkaaDoorG08
import Derived.Test.YtlkcibhdnicpkaaDoorG09
import Derived.Deep.SlicePairs
import Derived.Deep.Strs
import Derived.Deep.Slices
import Derived.OpenShut
namespace Go.Proofs.YtlkcibhdnicpkaaDoor
namespace Mc
open Go.RowKit Ba Sm Br
set_option linter.unusedVariables false
def lab (t : List UInt8) (ps : List (List UInt8)) : List UInt8 := Fm.text t ++ (ps.map Fm.text).flatten
def labs (t : List UInt8) (ps : List (List UInt8)) (k : Nat) : List (List UInt8) := Fm.text t :: (ps.take k).map Fm.text
theorem labs_succ (t : List UInt8) (ps : List (List UInt8)) (k : Nat) (h : k < ps.length) : labs t ps k ++ [Fm.text (ps.getD k [])] = labs t ps (k + 1) := by
  have e : ps.getD k [] = ps[k] := by simp [List.getD, h]
  rw [labs, labs, e, List.take_succ_eq_append_getElem h, List.map_append]
  rfl
theorem labs_len (t : List UInt8) (ps : List (List UInt8)) (k : Nat) (h : k ≤ ps.length) : (labs t ps k).length = k + 1 := by
  simp [labs]; omega
theorem labs_all (t : List UInt8) (ps : List (List UInt8)) : (labs t ps ps.length).flatten = lab t ps := by
  simp [labs, lab]
theorem labs_flat (t : List UInt8) (ps : List (List UInt8)) (k : Nat) (h : k < ps.length) : (labs t ps (k + 1)).flatten = (labs t ps k).flatten ++ Fm.text (ps.getD k []) := by
  rw [← labs_succ t ps k h, List.flatten_append]
  simp
theorem labs_flat_len (t : List UInt8) (ps : List (List UInt8)) (ht : t.length ≤ 1000000) (hp : ∀ p ∈ ps, p.length ≤ 1000000) : ∀ k, k ≤ ps.length → (labs t ps k).flatten.length ≤ (k + 1) * 1000008
  | 0, _ => by
    have := text_len t
    simp [labs]; omega
  | k + 1, h => by
    have h1 := labs_flat_len t ps ht hp k (by omega)
    have h2 := text_len (ps.getD k [])
    have h3 : (ps.getD k []).length ≤ 1000000 := hp _ (by simp [List.getD, show k < ps.length by omega])
    rw [labs_flat t ps k (by omega), List.length_append]
    omega
theorem labs_mem (t : List UInt8) (ps : List (List UInt8)) (ht : t.length ≤ 1000000) (hp : ∀ p ∈ ps, p.length ≤ 1000000) : ∀ q ∈ labs t ps ps.length, q.length ≤ 140737488351232 := by
  intro q hq
  simp only [labs, List.take_length, List.mem_cons, List.mem_map] at hq
  rcases hq with rfl | ⟨p, hp1, rfl⟩
  · have := text_len t; omega
  · have := text_len p; have := hp p hp1; omega
theorem info22 : (Tryd.prog.info? 22).map (fun i => (i.zero, i.size, i.bytes)) = some (some (.slice none 0 0), 1, 24) := by kernel_rfl
set_option maxRecDepth 100000 in
set_option maxHeartbeats 4000000 in
theorem label_calls (k t : List UInt8) (ps : List (List UInt8)) (A Ap : Option Addr) (n c np cp : Nat) (w : World) (hn : n = k.length) (hnp : np = ps.length) (hr : ReadB w w.heap.size A k) (h : ReadBB w w.heap.size Ap ps) (htab : Tab w) (hkc : k.length ≤ c) (hkc2 : c ≤ 9223372036854775807) (hkm : k.length ≤ 140737488351232)
    (hpn : ps.length ≤ 1000) (hpc : ps.length ≤ cp) (hcm : cp ≤ 9223372036854775807) (ht : t.length ≤ 1000000) (hm : ∀ p ∈ ps, p.length ≤ 1000000) :
    Calls Tryd.prog 37 #[.slice A n c, .string (S t), .slice Ap np cp] w fun e w' => e = .returned (.agg (bvs (hmac k (lab t ps))).toArray) ∧ Below w.heap.size w w' := by
  subst hn hnp
  obtain ⟨ir, hir⟩ := isRow_of info22
  have Hir := Lib.hid hir
  have H := Lib.hid h
  have Hr := Lib.hid hr
  have Htab := Lib.hid htab
  have Hm := Lib.hid hm
  have hlm := labs_mem t ps ht hm
  have Hlm := Lib.hid hlm
  have hfl := labs_flat_len t ps ht hm ps.length (Nat.le_refl _)
  rw [labs_all] at hfl
  have Hfl := Lib.hid hfl
  clear hir h hr htab hm hlm hfl
  have hE32 := hmac_len k (lab t ps)
  obtain ⟨E, hE⟩ : ∃ E, E = hmac k (lab t ps) := ⟨_, rfl⟩
  rw [← hE] at hE32
  have HE := Lib.hid hE
  have HE32 := Lib.hid hE32
  rw [← HE.out]
  have hs0 : ∀ o, (w.alloc o).heap.size = w.heap.size + 1 := fun o => by simp
  clear hE hE32
  go_enter Tryd.func37, Tryd.ntmps37
  go_wp2_with fail
  refine (Fi.text_calls t (by omega) _).mono ?_
  rintro e w1 ⟨v1, rfl, ho1, hb1⟩
  rw [hs0] at hb1 ho1
  have HZ1 : Hid (Blk w1 w.heap.size 26 (bvs (List.replicate 32 0)).toArray) := Lib.hid (Blk.below (by rw [bvs_rep32]; exact heap_alloc_new _ _) hb1 (by omega))
  have HB1 := Lib.hid (((Below.refl _ _).alloc (Nat.le_refl _) _).trans (hb1.mono (Nat.le_succ _)))
  obtain ⟨A1, c1, rfl, t1, t2, t3, t4⟩ := ho1.opens
  have hT1 : ReadT w1 5 A1 (Fm.text t) := ReadT.of_own ho1
  have hz1 := HZ1.out.lt
  have hq := OwnBB.lit1 w1 22 5 w1.heap.size (w.heap.size + 1) A1 _ c1 (Fm.text t) rfl hz1 rfl t1 t2 hT1
  have HQ := Lib.hid hq
  have HZ2 := Lib.hid (HZ1.out.alloc (.cells #[.slice A1 (Fm.text t).length c1] 22))
  have HB2 := Lib.hid (HB1.out.alloc HB1.out.size (.cells #[.slice A1 (Fm.text t).length c1] 22))
  clear ho1 hb1 t3 t4 hT1 hz1 hq HZ1 HB1
  go_wp2_with fail
  generalize w1.alloc (.cells #[.slice A1 (Fm.text t).length c1] 22) = W1 at *
  go_loopw [7, 9, 15] (fun v _ i wr => ∃ j : Nat, j ≤ ps.length ∧ i = .int .i64 j ∧ OwnBB wr (w.heap.size + 1) 22 5 v (labs t ps j) ∧ Blk wr w.heap.size 26 (bvs (List.replicate 32 0)).toArray ∧ Below w.heap.size w wr) (fun _ _ i _ => ps.length - (intOf i).toNat)
  case atStart => exact ⟨0, Nat.zero_le _, rfl, by simpa [labs] using HQ.out, HZ2.out, HB2.out⟩
  case round =>
    obtain ⟨j, hj, rfl, hQ, hZ, hB⟩ := hrel
    have HQ := Lib.hid hQ
    have HZ := Lib.hid hZ
    have HB := Lib.hid hB
    clear hQ hZ hB HZ2 HB2
    by_cases hjl : j < ps.length
    · obtain ⟨b, o, rfl, hb, hcs⟩ := H.out (by omega)
      obtain ⟨Ak, ck, q1, q2, q3, q4⟩ := hcs j hjl
      have hq1 := (HB.out.cell (p := ⟨b, o + j, none⟩) hb).trans q1
      have hlk : (ps.getD j []).length ≤ 1000000 := Hm.out _ (by simp [List.getD, hjl])
      have hcv := run_strof (P := Tryd.prog) wr 22 5 Tryd.underlying22 Tryd.underlying5 Ak ck _ (ps.getD j []) (q4.below HB.out) 9 Tryd.underlying9
      have hls := labs_succ t ps j hjl
      have Hls := Lib.hid hls
      have hll := labs_len t ps j hj
      have Hll := Lib.hid hll
      generalize ps.getD j [] = pk at *
      clear hcs q1 q4 hls hll
      go_wp2_with fail
      refine (Fi.text_calls pk (by omega) _).mono ?_
      rintro e w4 ⟨v4, rfl, ho4, hb4⟩
      obtain ⟨A4, c4, rfl, t1, t2, t3, t4⟩ := ho4.opens
      have hT4 : ReadT w4 5 A4 (Fm.text pk) := ReadT.of_own ho4
      have HQ4 := Lib.hid ((HQ.out.keptB hb4).keptB ((Below.refl _ _).alloc (Nat.le_refl _) (.cells #[.slice A4 (Fm.text pk).length c4] 22)))
      have HZ4 := Lib.hid ((HZ.out.below hb4 HZ.out.lt).alloc (.cells #[.slice A4 (Fm.text pk).length c4] 22))
      have hB4 := HB.out.trans (hb4.mono HB.out.size)
      have HB4 := Lib.hid (hB4.alloc hB4.size (.cells #[.slice A4 (Fm.text pk).length c4] 22))
      have HT4 := Lib.hid (hT4.below ((Below.refl _ _).alloc (Nat.le_refl _) (.cells #[.slice A4 (Fm.text pk).length c4] 22)))
      have hcell := cell_of_row (w4.alloc (.cells #[.slice A4 (Fm.text pk).length c4] 22)) w4.heap.size 0 _ 22 (0, 0) (heap_alloc_new w4 _)
      have Hcell := Lib.hid hcell
      have hz4 := HZ4.out.lt
      have Hz4 := Lib.hid hz4
      clear ho4 hb4 t3 t4 hT4 HQ HZ HB hB4 hcell hz4
      go_wp2_with (at_builtin; refine wpList_appBB1 _ rfl (.tmp 19) (.tmp 23) 30 rfl (w.heap.size + 1) 22 5 ir Tryd.underlying30 Hir.out (by decide) _ (labs t ps j) rfl HQ4.out w4.heap.size A4 (Fm.text pk).length c4 (Fm.text pk) rfl Hcell.out (by simp) rfl t1 t2 HT4.out (by rw [Hll.out]; omega) Hz4.out ?_; intro v5 w5 ho5 _ _ hb5; have HO5 := Lib.hid ho5; have HZ5 := Lib.hid (HZ4.out.below hb5 (Nat.lt_succ_self _)); have HB5 := Lib.hid (HB4.out.trans (hb5.mono (Nat.le_succ _))); clear ho5 hb5)
      go_roundw
      case rel => exact ⟨j + 1, by omega, by go_num, by rw [← Hls.out]; exact HO5.out, HZ5.out, HB5.out⟩
      case measure => simp [intOf]; omega
    · have hjj : j = ps.length := by omega
      rw [hjj] at HQ
      obtain ⟨Aq, cq, rfl, t1, t2, t3⟩ := HQ.out.opens
      have T3 := Lib.hid t3
      have Hla := Lib.hid (labs_all t ps)
      have hll := labs_len t ps ps.length (Nat.le_refl _)
      have Hll := Lib.hid hll
      clear t3 hjj hj HQ
      obtain ⟨L, hL⟩ : ∃ L, L = labs t ps ps.length := ⟨_, rfl⟩
      rw [← hL] at T3 Hlm t1 Hla Hll ⊢
      clear hL hll
      go_wp2_with fail
      refine (mofN (ps := L) rfl rfl ((Hr.out.below HB.out).more HB.out.size) T3.out (Htab.out.below HB.out) hkc hkc2 hkm t1 t2 Hlm.out (by rw [Hla.out]; have := Hfl.out; omega)).mono ?_
      rw [Hla.out, ← HE.out]
      rintro e w8 ⟨rfl, hb8⟩
      have HZ8 := Lib.hid (HZ.out.below hb8 HZ.out.lt)
      have HB8 := Lib.hid (HB.out.trans (hb8.mono HB.out.size))
      clear hb8 HZ HB
      go_wp2_with (refine wpList_store_blk rfl 26 (.tmp 6) (.tmp 28) rfl w.heap.size 0 26 [] (bvs (List.replicate 32 0)) [] (bvs E) rfl rfl (by simpa using HZ8.out) rfl (by rw [bvs_length, bvs_length, HE32.out]; rfl) (by rw [bvs_length, HE32.out]; kernel_rfl) (bvs_one _) ?_; intro w9 hX9 hg9)
      refine bodyPost_ret (results_cell_row (p := 6) (ty := 26) (by kernel_rfl) _ w9 w.heap.size 26 (bvs E).toArray (0, 0) _ rfl (by simp only [List.nil_append, List.append_nil] at hX9; exact hX9) Tryd.underlying26 rfl (by rw [List.size_toArray, bvs_length, HE32.out]; kernel_rfl)) rfl ⟨rfl, HB8.out.trans (below_of_only hg9 (Nat.le_refl _) HB8.out.size)⟩
set_option maxRecDepth 100000 in
set_option maxHeartbeats 4000000 in
theorem rlabel_calls (k t : List UInt8) (ps : List (List UInt8)) (A Ap : Option Addr) (n c np cp : Nat) (w : World) (hn : n = k.length) (hnp : np = ps.length) (hr : ReadB w w.heap.size A k) (h : ReadBB w w.heap.size Ap ps) (hkc : k.length ≤ c) (hkm : k.length ≤ 140737488351232)
    (hpn : ps.length ≤ 1000) (ht : t.length ≤ 1000000) (hm : ∀ p ∈ ps, p.length ≤ 1000000) :
    Calls Tryd.prog 38 #[.slice A n c, .string (S t), .slice Ap np cp] w fun e w' => e = .returned (.agg (bvs (hmac k (lab t ps))).toArray) ∧ Below w.heap.size w w' := by
  subst hn hnp
  obtain ⟨i0, hi0⟩ := isByte_of info5
  have Hi := Lib.hid hi0
  have H := Lib.hid h
  have Hr := Lib.hid hr
  have Hm := Lib.hid hm
  have hfl := labs_flat_len t ps ht hm
  have Hfl := Lib.hid hfl
  clear hi0 h hr hm hfl
  have hE32 := hmac_len k (lab t ps)
  obtain ⟨E, hE⟩ : ∃ E, E = hmac k (lab t ps) := ⟨_, rfl⟩
  rw [← hE] at hE32
  have HE := Lib.hid hE
  have HE32 := Lib.hid hE32
  rw [← HE.out]
  have hs0 : ∀ o, (w.alloc o).heap.size = w.heap.size + 1 := fun o => by simp
  clear hE hE32
  go_enter Tryd.func38, Tryd.ntmps38
  go_wp2_with fail
  refine (Fr.text_calls t (by omega) _).mono ?_
  rintro e w1 ⟨v1, rfl, ho1, hb1⟩
  rw [hs0] at hb1 ho1
  have HZ1 : Hid (Blk w1 w.heap.size 26 (bvs (List.replicate 32 0)).toArray) := Lib.hid (Blk.below (by rw [bvs_rep32]; exact heap_alloc_new _ _) hb1 (by omega))
  have HB1 := Lib.hid (((Below.refl _ _).alloc (Nat.le_refl _) _).trans (hb1.mono (Nat.le_succ _)))
  have HO1 := Lib.hid ho1
  clear ho1 hb1
  go_wp2_with fail
  go_loopw [7, 8] (fun v i wr => ∃ j : Nat, j ≤ ps.length ∧ i = .int .i64 j ∧ OwnB wr (w.heap.size + 1) 5 v (labs t ps j).flatten ∧ Blk wr w.heap.size 26 (bvs (List.replicate 32 0)).toArray ∧ Below w.heap.size w wr) (fun _ i _ => ps.length - (intOf i).toNat)
  case atStart => exact ⟨0, Nat.zero_le _, rfl, by simpa [labs] using HO1.out, HZ1.out, HB1.out⟩
  case round =>
    obtain ⟨j, hj, rfl, hO, hZ, hB⟩ := hrel
    have HO := Lib.hid hO
    have HZ := Lib.hid hZ
    have HB := Lib.hid hB
    clear hO hZ hB HZ1 HB1 HO1
    by_cases hjl : j < ps.length
    · obtain ⟨b, o, rfl, hb, hcs⟩ := H.out (by omega)
      obtain ⟨Ak, ck, q1, q2, q3, q4⟩ := hcs j hjl
      have hq1 := (HB.out.cell (p := ⟨b, o + j, none⟩) hb).trans q1
      have hlk : (ps.getD j []).length ≤ 1000000 := Hm.out _ (by simp [List.getD, hjl])
      have hcv := run_strof (P := Tryd.prog) wr 22 5 Tryd.underlying22 Tryd.underlying5 Ak ck _ (ps.getD j []) (q4.below HB.out) 9 Tryd.underlying9
      have hls := labs_flat t ps j hjl
      have Hls := Lib.hid hls
      have hll := Hfl.out j hj
      generalize ps.getD j [] = pk at *
      obtain ⟨L, hL⟩ : ∃ L, L = (labs t ps j).flatten := ⟨_, rfl⟩
      rw [← hL] at HO Hls hll
      clear hcs q1 q4 hls hL
      go_wp2_with fail
      refine (Fr.text_calls pk (by omega) _).mono ?_
      rintro e w4 ⟨v4, rfl, ho4, hb4⟩
      obtain ⟨A4, c4, rfl, t1, t2, t3, t4⟩ := ho4.opens
      have T3 := Lib.hid t3
      have HO4 := Lib.hid (HO.out.keptB hb4)
      have HZ4 := Lib.hid (HZ.out.below hb4 HZ.out.lt)
      have HB4 := Lib.hid (HB.out.trans (hb4.mono HB.out.size))
      have hz4 := HZ4.out.lt
      have Hz4 := Lib.hid hz4
      have htl := text_len pk
      have hjm : j < 1000 := by omega
      have hlm : L.length + (Fm.text pk).length ≤ 140737488355328 := by
        have : (j + 1) * 1000008 ≤ 1000 * 1000008 := Nat.mul_le_mul_right _ (by omega)
        omega
      clear ho4 hb4 t3 t4 HO HZ HB hz4 hll
      go_wp2_with (at_builtin; refine wpList_appB _ rfl (.tmp 17) (.tmp 23) 22 rfl (w.heap.size + 1) 5 i0 Tryd.underlying22 Hi.out _ L rfl HO4.out w4.heap.size A4 _ c4 (Fm.text pk) rfl rfl T3.out hlm Hz4.out ?_; intro v5 w5 ho5 _ _ hb5; have HO5 := Lib.hid ho5; have HZ5 := Lib.hid (HZ4.out.below hb5 (Nat.lt_succ_self _)); have HB5 := Lib.hid (HB4.out.trans (hb5.mono (Nat.le_succ _))); clear ho5 hb5)
      go_roundw
      case rel => exact ⟨j + 1, by omega, by go_num, by rw [Hls.out]; exact HO5.out, HZ5.out, HB5.out⟩
      case measure => simp [intOf]; omega
    · have hjj : j = ps.length := by omega
      rw [hjj] at HO
      have hla := labs_all t ps
      rw [hla] at HO
      have hf := Hfl.out ps.length (Nat.le_refl _)
      rw [hla] at hf
      obtain ⟨L, hL⟩ : ∃ L, L = lab t ps := ⟨_, rfl⟩
      have HEL : Hid (E = hmac k L) := Lib.hid (by rw [hL]; exact HE.out)
      rw [← hL] at HO hf
      have Hf := Lib.hid hf
      clear hjj hj hla hf hL
      go_wp2_with fail
      refine (rmofV rfl ((Hr.out.below HB.out).more HB.out.size) hkc hkm HO.out (by have := Hf.out; have : (ps.length + 1) * 1000008 ≤ 1001 * 1000008 := Nat.mul_le_mul_right _ (by omega); omega)).mono ?_
      rw [← HEL.out]
      rintro e w8 ⟨rfl, hb8⟩
      have HZ8 := Lib.hid (HZ.out.below hb8 HZ.out.lt)
      have HB8 := Lib.hid (HB.out.trans (hb8.mono HB.out.size))
      clear hb8 HZ HB
      go_wp2_with (refine wpList_store_blk rfl 26 (.tmp 6) (.tmp 27) rfl w.heap.size 0 26 [] (bvs (List.replicate 32 0)) [] (bvs E) rfl rfl (by simpa using HZ8.out) rfl (by rw [bvs_length, bvs_length, HE32.out]; rfl) (by rw [bvs_length, HE32.out]; kernel_rfl) (bvs_one _) ?_; intro w9 hX9 hg9)
      refine bodyPost_ret (results_cell_row (p := 6) (ty := 26) (by kernel_rfl) _ w9 w.heap.size 26 (bvs E).toArray (0, 0) _ rfl (by simp only [List.nil_append, List.append_nil] at hX9; exact hX9) Tryd.underlying26 rfl (by rw [List.size_toArray, bvs_length, HE32.out]; kernel_rfl)) rfl ⟨rfl, HB8.out.trans (below_of_only hg9 (Nat.le_refl _) HB8.out.size)⟩
end Mc
end Go.Proofs.YtlkcibhdnicpkaaDoor
/- Any key, label and parts make the key that the document says; bytes are told to be the same just if they are: the walk of the statement. -/
namespace Go.Proofs.YtlkcibhdnicpkaaDoor
namespace Mc
open Go.RowKit Ba Sm Br
set_option linter.unusedVariables false
set_option maxRecDepth 100000 in
set_option maxHeartbeats 8000000 in
theorem macLabels_calls (k t : List UInt8) (ps : List (List UInt8)) (A Ap : Option Addr) (c cp : Nat) (hkc : k.length ≤ c) (hkm : c ≤ 9223372036854775807) (hpc : ps.length ≤ cp) (hpm : cp ≤ 9223372036854775807) (w : World) (htab : Tab w) (hr : ReadB w w.heap.size A k) (h : ReadBB w w.heap.size Ap ps) :
    Calls Tryd.prog 12 #[.slice A k.length c, .string (S t), .slice Ap ps.length cp] w fun e w' => e = .returned (.bool true) ∧ Below w.heap.size w w' := by
  have hw := awake_calls
  have Hw := Lib.hid hw
  have Hr := Lib.hid hr
  have H := Lib.hid h
  have Htab := Lib.hid htab
  have hsz : (S t).size = t.length := S_size t
  clear hw hr htab h
  by_cases h1 : 100 < k.length
  · have g1 : decide (100 < (k.length : Int)) = true := by rw [decide_eq_true_eq]; omega
    go_enter Tryd.func12, Tryd.ntmps12
    go_wp2_with (go_at_call 27; refine (Hw.out _ Htab.out).mono ?_; rintro e w5 ⟨rfl, hb5⟩)
    go_ret
    exact ⟨rfl, hb5⟩
  have g1 : decide (100 < (k.length : Int)) = false := by rw [decide_eq_false_iff_not]; omega
  by_cases h2 : 100 < t.length
  · have g2 : decide (100 < (t.length : Int)) = true := by rw [decide_eq_true_eq]; omega
    go_enter Tryd.func12, Tryd.ntmps12
    go_wp2_with (go_at_call 27; refine (Hw.out _ Htab.out).mono ?_; rintro e w5 ⟨rfl, hb5⟩)
    go_ret
    exact ⟨rfl, hb5⟩
  have g2 : decide (100 < (t.length : Int)) = false := by rw [decide_eq_false_iff_not]; omega
  by_cases h3 : 4 < ps.length
  · have g3 : decide (4 < (ps.length : Int)) = true := by rw [decide_eq_true_eq]; omega
    go_enter Tryd.func12, Tryd.ntmps12
    go_wp2_with (go_at_call 27; refine (Hw.out _ Htab.out).mono ?_; rintro e w5 ⟨rfl, hb5⟩)
    go_ret
    exact ⟨rfl, hb5⟩
  have g3 : decide (4 < (ps.length : Int)) = false := by rw [decide_eq_false_iff_not]; omega
  go_enter Tryd.func12, Tryd.ntmps12
  go_wp2_with fail
  go_loopw [7] (fun i wr => ∃ j : Nat, j ≤ ps.length ∧ i = .int .i64 j ∧ Below w.heap.size w wr ∧ ∀ q, q < j → (ps.getD q []).length ≤ 100) (fun i _ => ps.length - (intOf i).toNat)
  case atStart => exact ⟨0, Nat.zero_le _, rfl, Below.refl _ _, fun q hq => absurd hq (by omega)⟩
  case round =>
    obtain ⟨j, hj, rfl, hB, hall⟩ := hrel
    have HB := Lib.hid hB
    have Hall := Lib.hid hall
    clear hB hall
    by_cases hjl : j < ps.length
    · obtain ⟨b, o, rfl, hb, hcs⟩ := H.out (by omega)
      obtain ⟨Aj, cj, q1, q2, q3, q4⟩ := hcs j hjl
      obtain ⟨A0, c0, r1, r2, r3, r4⟩ := hcs 0 (by omega)
      have hq1 := (HB.out.cell (p := ⟨b, o + j, none⟩) hb).trans q1
      have hr1 := (HB.out.cell (p := ⟨b, o + 0, none⟩) hb).trans r1
      obtain ⟨pj, hpj⟩ : ∃ pj, pj = ps.getD j [] := ⟨_, rfl⟩
      obtain ⟨p0, hp0⟩ : ∃ p0, p0 = ps.getD 0 [] := ⟨_, rfl⟩
      rw [← hpj] at hq1 q2 q4
      rw [← hp0] at hr1 r2 r4
      have Hpj := Lib.hid hpj
      have HCj := Lib.hid hq1
      have HC0 : Hid (wr.cell? ⟨b, o, none⟩ = some (.slice A0 p0.length c0)) := Lib.hid hr1
      have HRj := Lib.hid (q4.below HB.out)
      have HR0 := Lib.hid (r4.below HB.out)
      have Hb := Lib.hid hb
      clear hcs q1 q4 r1 r4 hpj hp0 hr1 hb
      by_cases h4 : 100 < pj.length
      · have g4 : decide (100 < (pj.length : Int)) = true := by rw [decide_eq_true_eq]; omega
        go_wp2_with (go_at_call 27; refine (Hw.out _ (Htab.out.below HB.out)).mono ?_; rintro e w5 ⟨rfl, hb5⟩)
        go_ret
        exact ⟨rfl, HB.out.trans (hb5.mono HB.out.size)⟩
      have g4 : decide (100 < (pj.length : Int)) = false := by rw [decide_eq_false_iff_not]; omega
      have hp0 : 0 < ps.length := by omega
      have hjn : (0 : Int) ≤ (j : Int) := by omega
      have hjn2 : (j : Int) < (ps.length : Int) := by omega
      have hjn3 : (0 : Int) < (ps.length : Int) := by omega
      go_wp2_with fail
      refine CanB.region 1000 (.op 0 2 (.op 1 2 (.op 2 2 (.op 3 1 (.op 4 2 (.op 5 2 (.op 6 1 (.op 8 2 (.op 9 2 (.op 10 2 (.op 11 1 (.op 12 1 (.op 13 2 (.op 14 2 (.op 15 1 (.op 16 1 (.op 17 2 (.op 7 0 (.op 18 2 (.nil)))))))))))))))))))) (by kernel_rfl) (by kernel_rfl) ?_
      have HbB : Hid (b < wr.drew.heap.size) := Lib.hid (Nat.lt_of_lt_of_le Hb.out HB.out.size)
      have HCj : Hid (wr.drew.cell? ⟨b, o + j, none⟩ = some (.slice Aj pj.length cj)) := HCj
      have HC0 : Hid (wr.drew.cell? ⟨b, o, none⟩ = some (.slice A0 p0.length c0)) := HC0
      have hrj : ReadB wr.drew wr.drew.heap.size Aj pj := HRj.out.more HB.out.size
      have hr0 : ReadB wr.drew wr.drew.heap.size A0 p0 := HR0.out.more HB.out.size
      have HRj := Lib.hid hrj
      have HR0 := Lib.hid hr0
      have HB := Lib.hid HB.out.drew
      clear hrj hr0 hq1
      generalize wr.drew = W at *
      repeat (first | (refine CanT.skip rfl ?_ (fun K hK => ?_); (focus (go_simp; done)); go_simp; refine hK _ ?_; clear hK K) | (refine CanT.pur rfl ?_ ?_; (focus (go_simp; done)); refine ⟨?_, ?_, ?_⟩; rotate_left; (focus (intro w'; go_simp; rfl)); (focus (intro K hK; go_simp; refine hK _ ?_; clear hK K))) | (refine CanB.cell rfl ?_ (.slice Aj pj.length cj) (.slice Aj pj.length cj) ⟨b, o + j, none⟩ HCj.out HbB.out ?_ (fun K hK => ?_); (focus (go_simp; done)); (focus (intro w' hc'; go_simp; (try rfl))); go_simp; refine hK _ ?_; clear hK K) | (refine CanB.cell rfl ?_ (.slice A0 p0.length c0) (.slice A0 p0.length c0) ⟨b, o, none⟩ HC0.out HbB.out ?_ (fun K hK => ?_); (focus (go_simp; done)); (focus (intro w' hc'; go_simp; (try rfl))); go_simp; refine hK _ ?_; clear hK K) | (refine CanB.str rfl ?_ 22 9 5 _ rfl Tryd.underlying22 Tryd.underlying5 Tryd.underlying9 Aj _ cj (pj) rfl (rfl) HRj.out (fun K hK => ?_); (focus (go_simp; done)); go_simp; refine hK _ ?_; clear hK K) | (refine CanB.str rfl ?_ 22 9 5 _ rfl Tryd.underlying22 Tryd.underlying5 Tryd.underlying9 A0 _ c0 (p0) rfl (rfl) HR0.out (fun K hK => ?_); (focus (go_simp; done)); go_simp; refine hK _ ?_; clear hK K))
      have hl1 : pj.length ≤ 9223372036854775807 := by omega
      have hl2 : p0.length ≤ 9223372036854775807 := by omega
      refine CanT.imp rfl (fun J hJ => ?_)
      go_simp
      refine (equal_calls rfl rfl HRj.out HR0.out hl1 hl2).mono ?_
      rintro e w5 ⟨rfl, hb5⟩
      have HB5 := Lib.hid (HB.out.trans (hb5.mono HB.out.size))
      go_simp
      refine hJ.out _ _ hb5 ?_
      clear hJ J hb5
      generalize (pj == p0) = q at *
      cases q
      all_goals
        repeat (first | (refine CanT.skip rfl ?_ (fun K hK => ?_); (focus (go_simp; done)); go_simp; refine hK _ ?_; clear hK K) | (refine CanT.pur rfl ?_ ?_; (focus (go_simp; done)); refine ⟨?_, ?_, ?_⟩; rotate_left; (focus (intro w'; go_simp; rfl)); (focus (intro K hK; go_simp; refine hK _ ?_; clear hK K))))
        refine CanT.done ?_
        go_wp2_with fail
        go_roundw
        case rel => exact ⟨j + 1, by omega, by go_num, HB5.out, fun q hq => by
          rcases Nat.lt_or_ge q j with hlt | hge
          · exact Hall.out q hlt
          · rw [show q = j by omega, ← Hpj.out]; omega⟩
        case measure => simp [intOf]; omega
    · have hjj : j = ps.length := by omega
      have hm : ∀ p ∈ ps, p.length ≤ 1000000 := fun p hp => by
        obtain ⟨i, hi, e⟩ := List.getElem_of_mem hp
        have := Hall.out i (by omega)
        simp [List.getD, hi, e] at this
        omega
      have Hm := Lib.hid hm
      have hlo := hmac_len k (lab t ps)
      obtain ⟨E, hE⟩ : ∃ E, E = hmac k (lab t ps) := ⟨_, rfl⟩
      rw [← hE] at hlo
      have heq : ∀ w', (binOp .eql 26 (.agg (bvs E).toArray) (.agg (bvs E).toArray)).run Tryd.prog w' = .ok (.bool true) w' := fun w' => by rw [Sk.run_eqB E E hlo hlo w', beq_self_eq_true]
      have HE := Lib.hid hE
      clear hm hjj hlo hE
      go_wp2_with fail
      refine (label_calls k t ps A Ap _ c _ cp wr rfl rfl ((Hr.out.below HB.out).more HB.out.size) ((H.out.below HB.out).more HB.out.size) (Htab.out.below HB.out) hkc hkm (by omega) (by omega) hpc hpm (by omega) Hm.out).mono ?_
      rw [← HE.out]
      rintro e w4 ⟨rfl, hb4⟩
      have HB4 := Lib.hid (HB.out.trans (hb4.mono HB.out.size))
      clear hb4 HB
      go_wp2_with fail
      refine (rlabel_calls k t ps A Ap _ c _ cp w4 rfl rfl ((Hr.out.below HB4.out).more HB4.out.size) ((H.out.below HB4.out).more HB4.out.size) hkc (by omega) (by omega) (by omega) Hm.out).mono ?_
      rw [← HE.out]
      rintro e w5 ⟨rfl, hb5⟩
      have HB5 := Lib.hid (HB4.out.trans (hb5.mono HB4.out.size))
      clear hb5 HB4
      go_wp2_with (go_at_call 27; refine (Hw.out _ (Htab.out.below HB5.out)).mono ?_; rintro e w6 ⟨rfl, hb6⟩)
      go_ret
      exact ⟨rfl, HB5.out.trans (hb6.mono HB5.out.size)⟩
theorem macLabels_str (k : List UInt8) (t : ByteArray) (ps : List (List UInt8)) (A Ap : Option Addr) (c cp : Nat) (hkc : k.length ≤ c) (hkm : c ≤ 9223372036854775807) (hpc : ps.length ≤ cp) (hpm : cp ≤ 9223372036854775807) (w : World) (htab : Tab w) (hr : ReadB w w.heap.size A k) (h : ReadBB w w.heap.size Ap ps) :
    Calls Tryd.prog 12 #[.slice A k.length c, .string t, .slice Ap ps.length cp] w fun e w' => e = .returned (.bool true) ∧ Below w.heap.size w w' := by
  have h0 := macLabels_calls k t.data.toList ps A Ap c cp hkc hkm hpc hpm w htab hr h
  rw [S_data] at h0
  exact h0
end Mc
end Go.Proofs.YtlkcibhdnicpkaaDoor
/- Slices of strings, slices of pairs of numbers: what they read as. -/
namespace Go.Proofs.YtlkcibhdnicpkaaDoor
namespace Ba
open Go.RowKit
set_option linter.unusedVariables false

/-- a slice of strings -/
def ReadS (w : World) (B : Nat) (A : Option Addr) (l : List (List UInt8)) : Prop :=
  0 < l.length → ∃ b o, A = some ⟨b, o, none⟩ ∧ b < B ∧ ∀ k, k < l.length → w.cell? ⟨b, o + k, none⟩ = some (.string (S (l.getD k [])))
/-- a slice of pairs (a byte, a number) -/
def ReadP (w : World) (B : Nat) (A : Option Addr) (l : List (Int × Int)) : Prop :=
  0 < l.length → ∃ b o, A = some ⟨b, o, none⟩ ∧ b < B ∧ ∀ k, k < l.length → w.cell? ⟨b, o + k * 2, none⟩ = some (.int .u8 (l.getD k (0, 0)).1) ∧ w.cell? ⟨b, o + k * 2 + 1, none⟩ = some (.int .i64 (l.getD k (0, 0)).2)
section
variable {w w' : World} {B B' : Nat} {A : Option Addr}
theorem ReadS.below {l : List (List UInt8)} (h : ReadS w B A l) (hb : Below B w w') : ReadS w' B A l := fun hn => by
  obtain ⟨b, o, e, hbB, hc⟩ := h hn
  exact ⟨b, o, e, hbB, fun k hk => (hb.cell (p := ⟨b, o + k, none⟩) hbB).trans (hc k hk)⟩
theorem ReadP.below {l : List (Int × Int)} (h : ReadP w B A l) (hb : Below B w w') : ReadP w' B A l := fun hn => by
  obtain ⟨b, o, e, hbB, hc⟩ := h hn
  exact ⟨b, o, e, hbB, fun k hk => ⟨(hb.cell (p := ⟨b, o + k * 2, none⟩) hbB).trans (hc k hk).1, (hb.cell (p := ⟨b, o + k * 2 + 1, none⟩) hbB).trans (hc k hk).2⟩⟩
end
end Ba
end Go.Proofs.YtlkcibhdnicpkaaDoor
/- How a row's arguments are opened: strings that came in, pairs that came in. -/
namespace Go.Proofs.YtlkcibhdnicpkaaDoor
namespace Rk
open Go.ChangeShapes Go.WideShapes Go.ChangeAt Go.RowKit Go.Deep Ba
set_option linter.unusedVariables false

theorem plain_of_cell {W : World} {x : Addr} {v : Value} (h0 : W.cell? x = some v) : ∃ b o, x = ⟨b, o, none⟩ ∧ b < W.heap.size := by
  have hs : x.spot = none := by
    unfold World.cell? at h0
    split at h0
    · split at h0
      · cases h0
      · rename_i hs; simpa using hs
    · cases h0
  have hblk := block_lt_of_cell h0
  obtain ⟨b, o, s⟩ := x
  simp only at hs
  subst hs
  exact ⟨b, o, rfl, hblk⟩

theorem strs_open {H : Type} {enc : TypeId × Value → H} {P : Program} {W : World} {base : Nat} {spare : Nat → Bool} {held : Bool} {t e : TypeId} {a : Option Addr} {len cap : Nat} {d : DataW H} {ps : List MemPlace}
    (hu : P.underlying t = some (.slice e)) (he : P.underlying e = some .string) (hc : P.cellsOf e = 1) (h : DataW.Trod enc P W base spare held t (.slice a len cap) d ps) :
    ∃ l : List (List UInt8), len = l.length ∧ l.length ≤ cap ∧ cap ≤ 9223372036854775807 ∧ ReadS W W.heap.size a l ∧ ∀ r ∈ l, r.length ≤ 9223372036854775807 := by
  obtain ⟨fuel, hf⟩ := h
  rcases open_strs hu he hc hf with ⟨hcs, _⟩ | ⟨x, len', cap', m, Sx, hcs, _, hl, hm, hmm, hx, hcell⟩
  · simp [Value.cells] at hcs
    obtain ⟨rfl, rfl, rfl⟩ := hcs
    exact ⟨[], rfl, by simp, by omega, fun h => absurd h (by simp), by simp⟩
  · simp [Value.cells] at hcs
    obtain ⟨rfl, rfl, rfl⟩ := hcs
    have hl2 : len ≤ m := by rw [hmm]; split <;> omega
    refine ⟨(List.range len).map fun k => (Sx k).data.toList, by simp, by simp; omega, by simpa [maxLen] using hm, ?_, ?_⟩
    · intro hn
      have hn2 : 0 < len := by simpa using hn
      have h0 := (hcell 0 (by omega)).1
      rw [add_zero_] at h0
      obtain ⟨b, o, rfl, hblk⟩ := plain_of_cell h0
      refine ⟨b, o, rfl, hblk, fun k hk => ?_⟩
      have hk2 : k < len := by simpa using hk
      have := (hcell k (by omega)).1
      rw [add_lit_] at this
      rw [this]
      simp [List.getD, hk2, S_data]
    · intro r hr
      simp only [List.mem_map, List.mem_range] at hr
      obtain ⟨k, hk, rfl⟩ := hr
      have := (hcell k (by omega)).2
      rw [Array.length_toList]
      exact this
end Rk
end Go.Proofs.YtlkcibhdnicpkaaDoor
/- How a row's arguments are opened: pairs of a byte and a number that came in. -/
namespace Go.Proofs.YtlkcibhdnicpkaaDoor
namespace Rk
open Go.ChangeShapes Go.WideShapes Go.ChangeAt Go.RowKit Go.Deep Ba
set_option linter.unusedVariables false

theorem pairs_open {H : Type} {enc : TypeId × Value → H} {P : Program} {W : World} {base : Nat} {spare : Nat → Bool} {held : Bool} {t e : TypeId} {f0 f1 : Field} {a : Option Addr} {len cap : Nat} {d : DataW H} {ps : List MemPlace}
    (hu : P.underlying t = some (.slice e)) (he : P.underlying e = some (.struct #[f0, f1])) (ce : P.cellsOf e = 2) (o0 : f0.offset = 0) (o1 : f1.offset = 1) (c0 : P.cellsOf f0.type = 1) (c1 : P.cellsOf f1.type = 1)
    (h0 : P.underlying f0.type = some (.int .u8)) (h1 : P.underlying f1.type = some (.int .i64)) (h : DataW.Trod enc P W base spare held t (.slice a len cap) d ps) :
    ∃ l : List (Int × Int), len = l.length ∧ l.length ≤ cap ∧ cap ≤ 9223372036854775807 ∧ ReadP W W.heap.size a l ∧ ∀ p ∈ l, (0 ≤ p.1 ∧ p.1 ≤ 255) ∧ -9223372036854775808 ≤ p.2 ∧ p.2 ≤ 9223372036854775807 := by
  obtain ⟨fuel, hf⟩ := h
  rcases open_slice_pairs hu he ce o0 o1 c0 c1 hf with ⟨hcs, _⟩ | ⟨x, len', cap', m, n, V0, V1, D0, D1, P0, P1, hcs, _, hl, hm, hmm, hx, hcell⟩
  · simp [Value.cells] at hcs
    obtain ⟨rfl, rfl, rfl⟩ := hcs
    exact ⟨[], rfl, by simp, by omega, fun h => absurd h (by simp), by simp⟩
  · simp [Value.cells] at hcs
    obtain ⟨rfl, rfl, rfl⟩ := hcs
    have hl2 : len ≤ m := by rw [hmm]; split <;> omega
    have key : ∀ i, i < len → ∃ z0 z1 : Int, W.cell? (x.add (i * 2)) = some (.int .u8 z0) ∧ W.cell? (x.add (i * 2 + 1)) = some (.int .i64 z1) ∧ (0 ≤ z0 ∧ z0 ≤ 255) ∧ -9223372036854775808 ≤ z1 ∧ z1 ≤ 9223372036854775807 := fun i hi => by
      obtain ⟨q0, q1, q2, q3⟩ := hcell i (by omega)
      obtain ⟨z0, e0, _, w0⟩ := DataW.trod_int h0 q2
      obtain ⟨z1, e1, _, w1⟩ := DataW.trod_int h1 q3
      simp only [List.cons.injEq, and_true] at e0 e1
      rw [e0] at q0
      rw [e1] at q1
      exact ⟨z0, z1, q0, q1, bd_u8 w0, bd_i64 w1⟩
    refine ⟨(List.range len).map fun i => if hi : i < len then ((key i hi).choose, (key i hi).choose_spec.choose) else (0, 0), by simp, by simp; omega, by simpa [maxLen] using hm, ?_, ?_⟩
    · intro hn
      have hn2 : 0 < len := by simpa using hn
      obtain ⟨b, o, rfl, hblk⟩ := plain_of_cell (key 0 hn2).choose_spec.choose_spec.1
      refine ⟨b, o, by simp [Addr.add], hblk, fun k hk => ?_⟩
      have hk2 : k < len := by simpa using hk
      have := (key k hk2).choose_spec.choose_spec
      have e : ((List.range len).map fun i => if hi : i < len then ((key i hi).choose, (key i hi).choose_spec.choose) else (0, 0)).getD k (0, 0) = ((key k hk2).choose, (key k hk2).choose_spec.choose) := by
        simp [List.getD, hk2]
      rw [e]
      obtain ⟨q0, q1, _⟩ := this
      have e2 := add_lit_ b o (k * 2)
      have e3 : (⟨b, o, none⟩ : Addr).add (k * 2 + 1) = ⟨b, o + k * 2 + 1, none⟩ := by rw [add_lit_, Nat.add_assoc]
      exact ⟨(congrArg W.cell? e2).symm.trans q0, (congrArg W.cell? e3).symm.trans q1⟩
    · intro p hp
      simp only [List.mem_map, List.mem_range] at hp
      obtain ⟨k, hk, rfl⟩ := hp
      rw [dif_pos hk]
      exact (key k hk).choose_spec.choose_spec.2.2
end Rk
end Go.Proofs.YtlkcibhdnicpkaaDoor
/- Arguments: a slice of slices of bytes. -/
namespace Go.Proofs.YtlkcibhdnicpkaaDoor
namespace Rk
open Go.ChangeShapes Go.WideShapes Go.ChangeAt Go.RowKit Ba
set_option linter.unusedVariables false
theorem bytess_open {H : Type} {enc : TypeId × Value → H} {P : Program} {W : World} {base : Nat} {spare : Nat → Bool} {held : Bool} {t e q : TypeId} {a : Option Addr} {len cap : Nat} {d : DataW H} {ps : List MemPlace}
    (hu : P.underlying t = some (.slice e)) (he : P.underlying e = some (.slice q)) (hq : P.underlying q = some (.int .u8)) (ce : P.cellsOf e = 1) (cq : P.cellsOf q = 1) (h : DataW.Trod enc P W base spare held t (.slice a len cap) d ps) :
    ∃ l : List (List UInt8), len = l.length ∧ l.length ≤ cap ∧ cap ≤ 9223372036854775807 ∧ ReadBB W W.heap.size a l ∧ True := by
  obtain ⟨fuel, hf⟩ := h
  rcases Deep.open_slice1 hu ce hf with ⟨hcs, _⟩ | ⟨x, len', cap', m, n, V, D, Pl, hcs, _, hl, hm, hmm, hx, hcell⟩
  · simp [Value.cells] at hcs
    obtain ⟨rfl, rfl, rfl⟩ := hcs
    exact ⟨[], rfl, by simp, by omega, fun h => absurd h (by simp), trivial⟩
  · simp [Value.cells] at hcs
    obtain ⟨rfl, rfl, rfl⟩ := hcs
    have hl2 : len ≤ m := by rw [hmm]; split <;> omega
    have key : ∀ i, i < len → ∃ (y : Option Addr × List UInt8 × Nat), W.cell? (x.add i) = some (.slice y.1 y.2.1.length y.2.2) ∧ y.2.1.length ≤ y.2.2 ∧ y.2.2 ≤ 9223372036854775807 ∧ ReadB W W.heap.size y.1 y.2.1 := fun i hi => by
      obtain ⟨q0, q1⟩ := hcell i (by omega)
      have hv : ∃ A l c, V i = .slice A l c := by
        rcases open_ints he hq cq q1 with ⟨hcs, _⟩ | ⟨x', l', c', zs, hcs, _⟩
        · simp only [List.cons.injEq, and_true] at hcs
          exact ⟨_, _, _, hcs⟩
        · simp only [List.cons.injEq, and_true] at hcs
          exact ⟨_, _, _, hcs⟩
      obtain ⟨A, l, c, hv⟩ := hv
      rw [hv] at q0 q1
      obtain ⟨r, rfl, h1, h2, h3⟩ := bytes_open (d := D i) (ps := Pl i) he hq cq ⟨n, q1⟩
      exact ⟨(A, r, c), q0, h1, h2, h3⟩
    refine ⟨(List.range len).map fun i => if hi : i < len then (key i hi).choose.2.1 else [], by simp, by simp; omega, by simpa [maxLen] using hm, ?_, trivial⟩
    intro hn
    have hn2 : 0 < len := by simpa using hn
    have h0 := (key 0 hn2).choose_spec.1
    obtain ⟨b, o, hx0, hblk⟩ := plain_of_cell h0
    rw [add_zero_] at hx0
    subst hx0
    refine ⟨b, o, rfl, hblk, fun k hk => ?_⟩
    have hk2 : k < len := by simpa using hk
    obtain ⟨q0, q1, q2, q3⟩ := (key k hk2).choose_spec
    have e : ((List.range len).map fun i => if hi : i < len then (key i hi).choose.2.1 else []).getD k [] = (key k hk2).choose.2.1 := by
      simp [List.getD, hk2]
    rw [e]
    exact ⟨_, _, (congrArg W.cell? (add_lit_ b o k)).symm.trans q0, q1, q2, q3⟩
end Rk
end Go.Proofs.YtlkcibhdnicpkaaDoor
/- What is sealed is opened to what it was; with another tag it is not opened: the walk of the statement. -/
namespace Go.Proofs.YtlkcibhdnicpkaaDoor
namespace Mc
open Go.RowKit Ba Sm Br
set_option linter.unusedVariables false
theorem opn_cut (k hd s : List UInt8) (h : s.length < 16) : opn k hd s = ([], 3) := by rw [opn, if_pos h]
theorem opn_other (k hd b t : List UInt8) (h16 : t.length = 16) (hne : t ≠ mtag k hd b) : opn k hd (b ++ t) = ([], 15) := by
  have e : (b ++ t).length - 16 = b.length := by rw [List.length_append, h16]; omega
  unfold opn
  rw [if_neg (by rw [List.length_append, h16]; omega), e, List.take_left' rfl, List.drop_left' rfl, if_neg (by
    intro h
    exact hne (beq_iff_eq.1 h).symm)]
theorem set_tag (k hd b : List UInt8) (i : Nat) (hi : b.length ≤ i) (hi2 : i < b.length + 16) (x : UInt8) (hx : x ≠ (b ++ mtag k hd b).getD i 0) : opn k hd ((b ++ mtag k hd b).set i x) = ([], 15) := by
  rw [List.set_append_right _ _ hi]
  refine opn_other k hd b _ (by rw [List.length_set, mtag_len]) (fun h => hx ?_)
  have h1 : ((mtag k hd b).set (i - b.length) x)[i - b.length]? = (mtag k hd b)[i - b.length]? := by rw [h]
  rw [List.getElem?_set_self (by rw [mtag_len]; omega)] at h1
  rw [List.getD, List.getElem?_append_right hi, ← h1]
  rfl
set_option maxRecDepth 100000 in
set_option maxHeartbeats 8000000 in
theorem macBack_calls (k hd b : List UInt8) (hk : k.length = 32) (A B : Option Addr) (c d : Nat) (hkc : hd.length ≤ c) (hkm : c ≤ 9223372036854775807) (hbd : b.length ≤ d) (hbm : d ≤ 9223372036854775807) (w : World) (htab : Tab w) (hr : ReadB w w.heap.size A hd) (hrb : ReadB w w.heap.size B b) :
    Calls Tryd.prog 10 #[.agg (bvs k).toArray, .slice A hd.length c, .slice B b.length d] w fun e w' => e = .returned (.bool true) ∧ Below w.heap.size w w' := by
  have hw := awake_calls
  have Hw := Lib.hid hw
  have Hk := Lib.hid hk
  have hA := (Below.refl w.heap.size w).alloc (Nat.le_refl _) (.cells (bvs k).toArray 26)
  have hR0 : Blk (w.alloc (.cells (bvs k).toArray 26)) w.heap.size 26 (bvs k).toArray := heap_alloc_new w (.cells (bvs k).toArray 26)
  have HRow := Lib.hid hR0
  have HA := Lib.hid hA
  have Hr := Lib.hid (hr.below hA)
  have Hb := Lib.hid ((hrb.below hA).more hA.size)
  have Htab := Lib.hid (htab.below hA)
  have Htab0 := Lib.hid htab
  have Hr0 := Lib.hid hr
  clear hw hr htab hrb hA hR0 hk
  by_cases h1 : 500 < hd.length
  · have g1 : decide (500 < (hd.length : Int)) = true := by rw [decide_eq_true_eq]; omega
    go_enter Tryd.func10, Tryd.ntmps10
    go_wp2_with (go_at_call 27; refine (Hw.out _ Htab.out).mono ?_; rintro e w5 ⟨rfl, hb5⟩)
    go_ret
    exact ⟨rfl, HA.out.trans (hb5.mono HA.out.size)⟩
  have g1 : decide (500 < (hd.length : Int)) = false := by rw [decide_eq_false_iff_not]; omega
  by_cases h2 : 500 < b.length
  · have g2 : decide (500 < (b.length : Int)) = true := by rw [decide_eq_true_eq]; omega
    go_enter Tryd.func10, Tryd.ntmps10
    go_wp2_with (go_at_call 27; refine (Hw.out _ Htab.out).mono ?_; rintro e w5 ⟨rfl, hb5⟩)
    go_ret
    exact ⟨rfl, HA.out.trans (hb5.mono HA.out.size)⟩
  have g2 : decide (500 < (b.length : Int)) = false := by rw [decide_eq_false_iff_not]; omega
  have hop := opn_seal k hd b
  have hst := set_tag k hd b
  have hSl : (b ++ mtag k hd b).length = b.length + 16 := by rw [List.length_append, mtag_len]
  obtain ⟨s, hs⟩ : ∃ s, s = b ++ mtag k hd b := ⟨_, rfl⟩
  rw [← hs] at hop hst hSl
  have HS := Lib.hid hs
  have Hop := Lib.hid hop
  have Hst := Lib.hid hst
  have HSl := Lib.hid hSl
  clear hop hst hSl hs
  go_enter Tryd.func10, Tryd.ntmps10
  go_wp2_with (refine wpList_load_blk rfl 26 (.tmp 3) rfl w.heap.size 0 26 [] (bvs k) [] rfl (by rw [List.append_nil, List.nil_append]; exact HRow.out) rfl _ Tryd.underlying26 rfl (by rw [bvs_length, Hk.out]; kernel_rfl) ?_)
  refine (seal_calls (k := k) (hd := hd) (b := b) Hk.out rfl rfl (Hr.out.more HA.out.size) Hb.out Htab.out hkc hbd hbm (by omega) (by omega)).mono ?_
  rw [← HS.out]
  rintro e w2 ⟨v2, rfl, ho2, hb2⟩
  have HB2 := Lib.hid (HA.out.trans (hb2.mono HA.out.size))
  have HRow2 := Lib.hid (HRow.out.below hb2 HRow.out.lt)
  have hown : OwnB w2 (w.heap.size + 1) 5 v2 s := by simpa using ho2
  have Hr2 := Lib.hid (Hr.out.below (hb2.mono HA.out.size))
  have Hb2 := Lib.hid ((Hb.out.below hb2).more hb2.size)
  have Htab2 := Lib.hid (Htab.out.below hb2)
  obtain ⟨gs, cs, rfl, t1, t2, t3, t4⟩ := hown.row (by rw [HSl.out]; omega)
  have HO2 := Lib.hid hown
  have T1 := Lib.hid t1
  have T3 := Lib.hid t3
  have T2 := Lib.hid t2
  clear ho2 hb2 hown HRow Hr Hb Htab HA t1 t2 t3
  have hR2 := ReadB.of_own HO2.out
  have HR2 := Lib.hid hR2
  clear hR2
  go_wp2_with (refine wpList_load_blk rfl 26 (.tmp 3) rfl w.heap.size 0 26 [] (bvs k) [] rfl (by rw [List.append_nil, List.nil_append]; exact HRow2.out) rfl _ Tryd.underlying26 rfl (by rw [bvs_length, Hk.out]; kernel_rfl) ?_)
  refine (open_calls (k := k) (hd := hd) (s := s) Hk.out rfl rfl (Hr2.out.more HB2.out.size) HR2.out Htab2.out hkc T3.out t4 (by omega) (by rw [HSl.out]; omega)).mono ?_
  rw [Hop.out]
  rintro e w3 ⟨v3, rfl, ho3, hb3⟩
  have HB3 := Lib.hid (HB2.out.trans (hb3.mono HB2.out.size))
  have HRow3 := Lib.hid (HRow2.out.below hb3 HRow2.out.lt)
  have HO3 := Lib.hid (HO2.out.keptB hb3)
  have Hr3 := Lib.hid (Hr2.out.below (hb3.mono HB2.out.size))
  have Htab3 := Lib.hid (Htab2.out.below hb3)
  obtain ⟨A3, c3, rfl, u1, u2, u3, u4⟩ := ho3.opens
  have hcv3 := run_strof (P := Tryd.prog) w3 22 5 Tryd.underlying22 Tryd.underlying5 A3 c3 _ b u3 9 Tryd.underlying9
  have hcvb := run_strof (P := Tryd.prog) w3 22 5 Tryd.underlying22 Tryd.underlying5 B d _ b (Hb2.out.below hb3) 9 Tryd.underlying9
  have hne : ((s.length : Int) != (b.length : Int) + 16) = false := by rw [HSl.out]; simp
  have Hs2 := Lib.hid hb3.size
  clear ho3 hb3 u3 u4 HRow2 HO2 Hr2 Hb2 Htab2 HB2 HR2
  go_wp2_with fail
  go_loopw [10, 11, 12] (fun i _ _ wr => ∃ j : Nat, b.length ≤ j ∧ j ≤ s.length + 4 ∧ i = .int .i64 j ∧ Blk wr w.heap.size 26 (bvs k).toArray ∧ OwnB wr (w.heap.size + 1) 5 (.slice (some ⟨gs, 0, none⟩) s.length cs) s ∧ Below w.heap.size w wr) (fun i _ _ _ => s.length + 5 - (intOf i).toNat)
  case atStart => exact ⟨b.length, Nat.le_refl _, by rw [HSl.out]; omega, rfl, HRow3.out, HO3.out, HB3.out⟩
  case round =>
    obtain ⟨j, hj0, hj, rfl, hRow, hO, hB⟩ := hrel
    have HRow := Lib.hid hRow
    have HO := Lib.hid hO
    have HB := Lib.hid hB
    have Hrr := Lib.hid (Hr0.out.below hB)
    clear hRow hB HRow3 HO3 HB3 hcv3 hcvb
    have hjb : j ≤ 600 := by have := HSl.out; omega
    by_cases hjl : j < s.length
    · have hcell := hO.cell hjl
      have hfz := hO.frz j
      obtain ⟨x, hx⟩ : ∃ x, x = s.getD j 0 := ⟨_, rfl⟩
      rw [← hx] at hcell
      have hy1 : ((x.toNat : Int) + 1) % 256 = (((x + 1 : UInt8)).toNat : Int) := by rw [UInt8.toNat_add]; rfl
      have hyw : IntKind.u8.wrap ((x.toNat : Int) + 1) = (((x + 1 : UInt8)).toNat : Int) := by rw [IntKind.wrap_u8]; exact hy1
      have hxy : x + 1 ≠ x := by
        intro h
        have := congrArg UInt8.toNat h
        rw [UInt8.toNat_add, show (1 : UInt8).toNat = 1 from rfl] at this
        have := x.toNat_lt
        omega
      have hz1 : (((x + 1 : UInt8).toNat : Int) - 1) % 256 = (x.toNat : Int) := by rw [UInt8.toNat_add, show (1 : UInt8).toNat = 1 from rfl]; have := x.toNat_lt; omega
      have hzw : IntKind.u8.wrap (((x + 1 : UInt8).toNat : Int) - 1) = (x.toNat : Int) := by rw [IntKind.wrap_u8]; exact hz1
      have hop := Hst.out j hj0 (by rw [← HSl.out]; exact hjl) (x + 1) (by rw [← hx]; exact hxy)
      have hO4 := hO.put j (x + 1).toNat (x + 1).toNat_lt
      have hof : UInt8.ofNat (x + 1).toNat = x + 1 := UInt8.ofNat_toNat
      rw [hof] at hO4
      obtain ⟨y, hy⟩ : ∃ y, y = x + 1 := ⟨_, rfl⟩
      rw [← hy] at hy1 hyw hz1 hzw hop hO4 hof
      have hsl : (s.set j y).length = s.length := by simp
      have hback : (s.set j y).set j x = s := by rw [List.set_set, hx]; simp [List.getD, hjl]
      obtain ⟨s2, hs2⟩ : ∃ s2, s2 = s.set j y := ⟨_, rfl⟩
      have hgy : s2.getD j 0 = y := by rw [hs2]; simp [List.getD, hjl]
      rw [← hs2] at hop hO4 hsl hback
      have HO4 := Lib.hid hO4
      have hR4 : ReadB (wr.setCell ⟨gs, j, none⟩ (.int .u8 (y.toNat : Int))) _ (some ⟨gs, 0, none⟩) s2 := ReadB.of_own (c := cs) (by rw [hsl]; exact hO4)
      have HR4 := Lib.hid hR4
      have HRow4 := Lib.hid (HRow.out.far (p := ⟨gs, j, none⟩) (by have := T1.out; simp; omega) (.int .u8 (y.toNat : Int)))
      have hB4 := HB.out.setCell (p := ⟨gs, j, none⟩) (by have := T1.out; simp; omega) (.int .u8 (y.toNat : Int))
      have HB4 := Lib.hid hB4
      have Hr4 := Lib.hid (ReadB.setFar (p := ⟨gs, j, none⟩) Hrr.out (by have := T1.out; simp; omega) (.int .u8 (y.toNat : Int)))
      have Htab4 := Lib.hid (Htab0.out.below HB4.out)
      have Hop4 := Lib.hid hop
      have Hsl := Lib.hid hsl
      have Hback := Lib.hid hback
      have Hgy := Lib.hid hgy
      clear hx hxy hop hO4 hy hs2 hsl hback hgy hB4 hof hO hR4
      go_wp2_with (refine wpList_load_blk rfl 26 (.tmp 3) rfl w.heap.size 0 26 [] (bvs k) [] rfl (by rw [List.append_nil, List.nil_append]; exact HRow4.out) rfl _ Tryd.underlying26 rfl (by rw [bvs_length, Hk.out]; kernel_rfl) ?_)
      refine (open_calls (k := k) (hd := hd) (s := s2) Hk.out rfl Hsl.out.symm (Hr4.out.more HB4.out.size) HR4.out Htab4.out hkc (by rw [Hsl.out]; exact T3.out) t4 (by omega) (by rw [Hsl.out, HSl.out]; omega)).mono ?_
      rw [Hop4.out]
      rintro e w5 ⟨v5, rfl, ho5, hb5⟩
      have HB5 := Lib.hid (HB4.out.trans (hb5.mono HB4.out.size))
      have HRow5 := Lib.hid (HRow4.out.below hb5 HRow4.out.lt)
      have hO5 := HO4.out.keptB hb5
      obtain ⟨A5, c5, rfl, _, _, _, _⟩ := ho5.opens
      have hO5' : OwnB w5 (w.heap.size + 1) 5 (.slice (some ⟨gs, 0, none⟩) s2.length cs) s2 := by rw [Hsl.out]; exact hO5
      have hcell := hO5'.cell (k := j) (by rw [Hsl.out]; exact hjl)
      rw [Hgy.out] at hcell
      have hfz5 := hO5'.frz j
      have hO6 := hO5'.put j x.toNat x.toNat_lt
      rw [UInt8.ofNat_toNat, Hback.out, Hsl.out] at hO6
      have HO6 := Lib.hid hO6
      have HRow6 := Lib.hid (HRow5.out.far (p := ⟨gs, j, none⟩) (by have := T1.out; simp; omega) (.int .u8 (x.toNat : Int)))
      have HB6 := Lib.hid (HB5.out.setCell (p := ⟨gs, j, none⟩) (by have := T1.out; simp; omega) (.int .u8 (x.toNat : Int)))
      have hm : (0 : Int) ≤ (j : Int) := by omega
      clear ho5 hb5 hO5 hO5' hO6 HO4 HR4 Hr4 Htab4 HRow4 HB4 hfz
      go_wp2_with fail
      go_roundw
      case rel => exact ⟨j + 5, by omega, by omega, by go_num, HRow6.out, HO6.out, HB6.out⟩
      case measure => simp [intOf]; omega
    · have hR8 := ReadB.of_own hO
      have HR8 := Lib.hid (hR8.take 15)
      have HRow8 : Hid (wr.drew.rangeAt w.heap.size 0 (bvs k)) := Lib.hid (show wr.rangeAt w.heap.size 0 (bvs k) from Blk.range [] (bvs k) [] (by rw [List.append_nil, List.nil_append]; exact HRow.out))
      have Hg8 : Hid (w.heap.size < wr.drew.heap.size) := Lib.hid HRow.out.lt
      have hl15 : (s.take 15).length = 15 := by rw [List.length_take, HSl.out]; omega
      have hcut := opn_cut k hd (s.take 15) (by rw [hl15]; omega)
      have Hcut := Lib.hid hcut
      have Hl15 := Lib.hid hl15
      have z1 : (15 : Int) ≤ (cs : Int) := by have := T3.out; have := HSl.out; omega
      have z2 : 15 ≤ cs := by omega
      have HB8 := Lib.hid HB.out.drew
      have Hr8 : Hid (ReadB wr.drew w.heap.size A hd) := Hrr
      have HR8' : Hid (ReadB wr.drew wr.drew.heap.size (some ⟨gs, 0, none⟩) (s.take 15)) := HR8
      clear hO hR8 hl15 hcut HO HR8 Hrr
      go_wp2_with fail
      refine CanB.region 1000 (.op 0 1 (.op 1 2 (.op 2 2 (.op 3 2 (.op 4 0 (.op 5 2 (.op 6 2 (.op 7 2 (.op 8 2 (.op 9 2 (.nil))))))))))) (by kernel_rfl) (by kernel_rfl) ?_
      generalize wr.drew = W at *
      repeat (first | (refine CanT.skip rfl ?_ (fun K hK => ?_); (focus (go_simp; done)); go_simp; refine hK _ ?_; clear hK K) | (refine CanT.pur rfl ?_ ?_; (focus (go_simp; done)); refine ⟨?_, ?_, ?_⟩; rotate_left; (focus (intro w'; go_simp; rfl)); (focus (intro K hK; go_simp; refine hK _ ?_; clear hK K))) | (refine CanB.row rfl ?_ _ _ rfl w.heap.size 0 (bvs k) rfl HRow8.out Hg8.out _ Tryd.underlying26 rfl (by rw [bvs_length, Hk.out]; kernel_rfl) (fun K hK => ?_); (focus (go_simp; done)); go_simp; refine hK _ ?_; clear hK K))
      refine CanT.imp rfl (fun J hJ => ?_)
      go_simp
      refine (open_calls (k := k) (hd := hd) (s := s.take 15) Hk.out rfl (by rw [Hl15.out]) (Hr8.out.more HB8.out.size) HR8'.out (Htab0.out.below HB8.out) hkc (by rw [Hl15.out]; exact z2) t4 (by omega) (by rw [Hl15.out]; omega)).mono ?_
      rw [Hcut.out]
      rintro e w9 ⟨v9, rfl, ho9, hb9⟩
      have HB9 := Lib.hid (HB8.out.trans (hb9.mono HB8.out.size))
      go_simp
      refine hJ.out _ _ hb9 ?_
      clear hJ J hb9 ho9
      repeat (first | (refine CanT.skip rfl ?_ (fun K hK => ?_); (focus (go_simp; done)); go_simp; refine hK _ ?_; clear hK K) | (refine CanT.pur rfl ?_ ?_; (focus (go_simp; done)); refine ⟨?_, ?_, ?_⟩; rotate_left; (focus (intro w'; go_simp; rfl)); (focus (intro K hK; go_simp; refine hK _ ?_; clear hK K))))
      refine CanT.done ?_
      go_wp2_with (go_at_call 27; refine (Hw.out _ (Htab0.out.below HB9.out)).mono ?_; rintro e w10 ⟨rfl, hb10⟩)
      go_ret
      exact ⟨rfl, HB9.out.trans (hb10.mono HB9.out.size)⟩
end Mc
end Go.Proofs.YtlkcibhdnicpkaaDoor
/- Arguments: an array of bytes by value. -/
namespace Go.Proofs.YtlkcibhdnicpkaaDoor
namespace Rk
open Go.ChangeShapes Go.WideShapes Go.ChangeAt Go.RowKit Ba
set_option linter.unusedVariables false
theorem hash_open {H : Type} {enc : TypeId × Value → H} {P : Program} {W : World} {base b2 : Nat} {spare : Nat → Bool} {held : Bool} {t e : TypeId} {n : Nat} {v : Value} {d : DataW H} {ps : List MemPlace}
    (hu : P.underlying t = some (.array n e)) (he : P.underlying e = some (.int .u8)) (ce : P.cellsOf e = 1) (ct : P.cellsOf t = n) (hv : Value.okWide P W .any b2 t v) (h : DataW.Trod enc P W base spare held t v d ps) :
    ∃ l : List UInt8, v = .agg (bvs l).toArray ∧ l.length = n := by
  obtain ⟨cs, rfl⟩ : ∃ cs, v = .agg cs := by
    unfold Value.okWide at hv
    simp only [hu] at hv
    obtain ⟨cs, h1, _⟩ := hv
    exact ⟨cs, h1⟩
  obtain ⟨fuel, hf⟩ := h
  obtain ⟨xs, m, rfl, _, hl, hxs, hi⟩ := DataW.trod_array hu hf
  have hcl : cs.toList.length = n := by
    have : (Value.agg cs).cells.toList = cs.toList := rfl
    rw [this] at hl
    omega
  rw [show (Value.agg cs).cells.toList = cs.toList from rfl] at hi
  have key : ∀ i, i < n → ∃ b : UInt8, cs.toList[i]? = some (bv b) := fun i hin => by
    have h1 := hi i hin
    rw [ce, Nat.mul_one, List.getElem?_eq_getElem (show i < xs.length by omega)] at h1
    obtain ⟨z, e0, _, w0⟩ := DataW.trod_int he h1
    have hb := bd_u8 w0
    have hil : i < cs.toList.length := by omega
    have e1 : (cs.toList.drop i).take 1 = [cs.toList[i]] := by
      rw [List.drop_eq_getElem_cons hil]; rfl
    rw [e1] at e0
    injection e0 with e0
    refine ⟨UInt8.ofNat z.toNat, ?_⟩
    rw [List.getElem?_eq_getElem hil, e0]
    unfold bv
    rw [UInt8.toNat_ofNat']
    congr 2
    omega
  refine ⟨(List.range n).map fun i => if hin : i < n then (key i hin).choose else 0, ?_, by simp⟩
  congr 1
  apply Array.ext'
  refine List.ext_getElem? fun i => ?_
  by_cases hin : i < n
  · rw [(key i hin).choose_spec]
    simp [bvs, hin]
  · rw [List.getElem?_eq_none (by omega), List.getElem?_eq_none (by simp [bvs]; omega)]
end Rk
end Go.Proofs.YtlkcibhdnicpkaaDoor
/- A region that draws its order: what holds of every world in between (F) says that the old blocks are as they were. -/
namespace Go.Proofs.YtlkcibhdnicpkaaDoor
namespace CanF
open CanT Go.RowKit Ba Sm
set_option linter.unusedVariables false
section
variable {P : Program} {ops : Array Oper} {Q : Exit → Act → World → Prop} {k : Nat} {F : World → Prop}
theorem region {id : Nat} {l : List Oper} {a : Act} {w : World} (k : Nat) (ord : Ord) (hm : P.follows .mixedOrders = true)
    (hB : (Region.noSelect l.toArray && okLen ord l.length && canB l.toArray k ord false (Array.replicate l.length false)) = true)
    (h : wpCan P l.toArray (NoPanic Q) k ord (fun w' => w.drew.grownBy w' none) a w.drew) : (Code.region id l.toArray true).wp P Q a w :=
  CanT.region (fun w' => w.drew.grownBy w' none) k ord hm hB (World.grownBy.refl _ _) h
variable {i : Nat} {o : Oper} {a : Act} {w W : World} {b : Nat} {rest : Ord} {B : Nat}
theorem row (hi : ops[i]? = some o) (hg : Region.wanted o (yielded ops a.tmps) = true)
    (ty : TypeId) (x : Operand) (ho : o.op = .load ty x) (g p : Nat) (cs : List Value) (hx : a.eval x = .pointer (some ⟨g, p, none⟩)) (hF : ∀ w', F w' → Below B W w') (hR : W.rangeAt g p cs) (hgB : g < B) (d : TypeDesc) (hu : P.underlying ty = some d) (hd : d.isRow = true)
    (hs : (P.info? ty).map (·.size) = some cs.length) (h : ∀ K : Act → Prop, (∀ a, wpCan P ops Q k rest F a w → K a) → K (a.put o.dst (.agg cs.toArray))) : wpCan P ops Q k (.op i 1 rest) F a w :=
  CanT.heldR hi hg ty x ho g p cs hx (fun w' h j v hv => (Below.cell (p := ⟨g, p + j, none⟩) (hF w' h) hgB).trans (hR j v hv)) d hu hd hs h
theorem strF (hi : ops[i]? = some o) (hg : Region.wanted o (yielded ops a.tmps) = true)
    (src dst e : TypeId) (x : Operand) (ho : o.op = .convert src dst x) (hs : P.underlying src = some (.slice e)) (he : P.underlying e = some (.int .u8)) (hd : P.underlying dst = some .string) (A : Option Addr) (n c : Nat) (l : List UInt8)
    (hx : a.eval x = .slice A n c) (hn : n = l.length) (hF : ∀ w', F w' → ∃ B, ReadB w' B A l) (h : ∀ K : Act → Prop, (∀ a, wpCan P ops Q k rest F a w → K a) → K (a.put o.dst (.string (S l)))) : wpCan P ops Q k (.op i 1 rest) F a w := by
  subst hn
  refine CanT.held hi hg ⟨.string (S l), fun w' hF' => ?_, h⟩
  obtain ⟨B, hR⟩ := hF w' hF'
  unfold execOp
  simp only [ho, hx, Sem.run_bind, run_strof w' src e hs he A c B l hR dst hd]
  rfl
theorem str (hi : ops[i]? = some o) (hg : Region.wanted o (yielded ops a.tmps) = true)
    (src dst e : TypeId) (x : Operand) (ho : o.op = .convert src dst x) (hs : P.underlying src = some (.slice e)) (he : P.underlying e = some (.int .u8)) (hd : P.underlying dst = some .string) (A : Option Addr) (n c : Nat) (l : List UInt8)
    (hx : a.eval x = .slice A n c) (hn : n = l.length) (hF : ∀ w', F w' → Below B W w') (hR : ReadB W B A l) (h : ∀ K : Act → Prop, (∀ a, wpCan P ops Q k rest F a w → K a) → K (a.put o.dst (.string (S l)))) : wpCan P ops Q k (.op i 1 rest) F a w :=
  strF hi hg src dst e x ho hs he hd A n c l hx hn (fun w' h => ⟨B, hR.below (hF w' h)⟩) h
theorem cell (hi : ops[i]? = some o) (hg : Region.wanted o (yielded ops a.tmps) = true) (u v : Value) (p : Addr) (hF : ∀ w', F w' → Below B W w') (hc : W.cell? p = some u) (hp : p.block < B)
    (hl : ∀ w', w'.cell? p = some u → (execOp a.eval o).run P w' = .ok (.value v) w')
    (h : ∀ K : Act → Prop, (∀ a, wpCan P ops Q k rest F a w → K a) → K (a.put o.dst v)) : wpCan P ops Q k (.op i 1 rest) F a w :=
  CanT.held hi hg ⟨v, fun w' h => hl w' ((Below.cell (hF w' h) hp).trans hc), h⟩
end
theorem step_appBg {P : Program} (w : World) {ops : Array Oper} {o : Oper} {a : Act} {K : Act → World → Prop} {Q : Exit → Act → World → Prop} {R : Prop} (hgd : Region.wanted o (yielded ops a.tmps) = true) (s x : Operand) (t : TypeId)
    (ho : o.op = .call { callee := .builtin .append, args := #[s, x], argTypes := #[t, t] })
    (base : Nat) (E : TypeId) (i : TypeInfo) (ht : P.underlying t = some (.slice E)) (hi : IsByte P E i)
    (v : Value) (l : List UInt8) (hs : a.eval s = v) (hown : OwnB w base E v l)
    (B : Nat) (A : Option Addr) (m c : Nat) (r : List UInt8) (hx : a.eval x = .slice A m c) (hm : m = r.length) (hr : ReadB w B A r)
    (hbytes : l.length + r.length ≤ 140737488355328) (hbase : base ≤ w.heap.size)
    (h : ∀ v' w', OwnB w' base E v' (l ++ r) → w.grownBy w' v.ownBlock → (v'.ownBlock = v.ownBlock ∨ v'.ownBlock = some w.heap.size) → Below base w w' → K (a.put o.dst v') w') :
    if Region.wanted o (yielded ops a.tmps) = true then Oper.wp P o a w K Q else R := by
  subst hm
  rw [if_pos hgd]
  refine wp_append_any w s x t ho base E i (.int .u8 0) 1 1 ht hi.1 hi.2.1 hi.2.2.1 hi.2.2.2 rfl (by omega) v l.length (bvs l) hs hown B A r.length c (bvs r) hx hr.reads (bvs_one r) (by unfold maxLen; omega) (by omega) hbase ?_
  intro v' w' h1 h2 h3
  refine h v' w' ?_ h2 h3 ((Below.refl base w).grown h2 hbase (fun k hk => (World.ownsRow.lt hown k hk).1))
  unfold OwnB
  rw [List.length_append, bvs_append]
  exact h1
/-- a new block: what grows from there on, but for that block, leaves all that was there -/
theorem grown_new {w : World} {o : Obj} {w' : World} {g : Nat} (hg : g = w.heap.size) (h : (w.alloc o).grownBy w' (some g)) : w.grownBy w' none := by
  subst hg
  have hb : Below w.heap.size w w' := ((Below.refl _ _).alloc (Nat.le_refl _) o).trans (below_of_only h (Nat.le_refl _) (by simp))
  exact only_of_below hb none
theorem grown_read {w w' : World} {base g : Nat} {E : TypeId} {l : List UInt8} {A : Option Addr} {c : Nat} (ho : OwnB w base E (.slice A l.length c) l) (hg : w.grownBy w' (some g)) (hne : g < base) : ∃ B, ReadB w' B A l := by
  refine ⟨_, ReadB.of_own (ho.grown hg ?_)⟩
  right
  intro e
  have := ho.ge g e
  omega
theorem none_read {w w' : World} {A : Option Addr} {l : List UInt8} (hr : ReadB w w.heap.size A l) (hg : w.grownBy w' none) : ∃ B, ReadB w' B A l :=
  ⟨_, hr.keep fun p hp => World.cell?_of_block (hg.block p.block hp (by simp))⟩
end CanF
end Go.Proofs.YtlkcibhdnicpkaaDoor

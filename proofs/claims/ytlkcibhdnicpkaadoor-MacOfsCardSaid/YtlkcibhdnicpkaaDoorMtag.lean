/- A tag, by the program and by the document's answer. -/
import Derived.Test.YtlkcibhdnicpkaaDoorMrof
namespace Go.Proofs.YtlkcibhdnicpkaaDoor
namespace Mc
open Go.RowKit Ba Sm
set_option linter.unusedVariables false
theorem hmac_len (k b : List UInt8) : (hmac k b).length = 32 := hash_len _
theorem mofN {k : List UInt8} {A : Option Addr} {n np c : Nat} {ps : List (List UInt8)} {Ap : Option Addr} {cp : Nat} {w : World} (hn : n = k.length) (hnp : np = ps.length) (hr : ReadB w w.heap.size A k) (h : ReadBB w w.heap.size Ap ps) (htab : Tab w) (hkc : k.length ≤ c) (hkc2 : c ≤ 9223372036854775807) (hkm : k.length ≤ 140737488351232)
    (hpc : ps.length ≤ cp) (hcm : cp ≤ 9223372036854775807) (hm : ∀ p ∈ ps, p.length ≤ 140737488351232) (hsum : ps.flatten.length ≤ 576460752303423487) :
    Calls Tryd.prog 28 #[.slice A n c, .slice Ap np cp] w fun e w' => e = .returned (.agg (bvs (hmac k ps.flatten)).toArray) ∧ Below w.heap.size w w' := by
  subst hn hnp
  exact mof_calls k A c ps Ap cp w hr h htab hkc hkc2 hkm hpc hcm hm hsum
theorem rmofV {k b : List UInt8} {A : Option Addr} {n c : Nat} {v : Value} {base : Nat} {w : World} (hn : n = k.length) (hr : ReadB w w.heap.size A k) (hkc : k.length ≤ c) (hkm : k.length ≤ 140737488351232) (hb : OwnB w base 5 v b) (hbm : b.length ≤ 140737488351168) :
    Calls Tryd.prog 29 #[.slice A n c, v] w fun e w' => e = .returned (.agg (bvs (hmac k b)).toArray) ∧ Below w.heap.size w w' := by
  subst hn
  obtain ⟨Ab, cb, rfl, h1, h2, h3, h4⟩ := hb.opens
  exact rmof_calls k b A Ab c cb w hr h3 hkc hkm hbm
theorem cloneN {l : List UInt8} {A : Option Addr} {n c : Nat} {w : World} (hn : n = l.length) (hc : l.length ≤ c) (hl : l.length ≤ 140737488355328) (hr : ReadB w w.heap.size A l) : Calls Tryd.prog 43 #[.slice A n c] w
    fun e w' => ∃ v, e = .returned v ∧ OwnB w' w.heap.size 5 v l ∧ Below w.heap.size w w' := by
  subst hn
  exact clone_calls l A c hc hl w hr
set_option maxRecDepth 100000 in
set_option maxHeartbeats 4000000 in
theorem tag_calls (k : List UInt8) (hk : k.length = 32) (ps : List (List UInt8)) (Ap : Option Addr) (np cp : Nat) (w : World) (hnp : np = ps.length) (h : ReadBB w w.heap.size Ap ps) (htab : Tab w)
    (hpc : ps.length ≤ cp) (hcm : cp ≤ 9223372036854775807) (hm : ∀ p ∈ ps, p.length ≤ 140737488351232) (hsum : ps.flatten.length ≤ 576460752303423487) :
    Calls Tryd.prog 34 #[.agg (bvs k).toArray, .slice Ap np cp] w fun e w' => ∃ v, e = .returned v ∧ OwnB w' w.heap.size 5 v ((hmac k ps.flatten).take 16) ∧ Below w.heap.size w w' := by
  subst hnp
  have H := Lib.hid h
  have Htab := Lib.hid htab
  have Hm := Lib.hid hm
  have Hk := Lib.hid hk
  have hs0 : ∀ o, (w.alloc o).heap.size = w.heap.size + 1 := fun o => by simp
  clear h htab hm hk
  go_enter Tryd.func34, Tryd.ntmps34
  go_wp2_with fail
  have HA := Lib.hid ((Below.refl w.heap.size w).alloc (Nat.le_refl _) (.cells (bvs k).toArray 26))
  refine (mofN (k := k) (ps := ps) (by rw [Hk.out]) rfl (readB_of (heap_alloc_new w (.cells (bvs k).toArray 26))) ((H.out.below HA.out).more (by simp)) (Htab.out.below HA.out) (by rw [Hk.out]; omega) (by omega) (by rw [Hk.out]; omega) hpc hcm Hm.out hsum).mono ?_
  rintro e w1 ⟨rfl, hb1⟩
  rw [hs0] at hb1
  have HB1 := Lib.hid (HA.out.trans (hb1.mono (Nat.le_succ _)))
  have hE32 := hmac_len k ps.flatten
  obtain ⟨E, hE⟩ : ∃ E, E = hmac k ps.flatten := ⟨_, rfl⟩
  rw [← hE] at hE32 ⊢
  have HE := Lib.hid hE
  have HE32 := Lib.hid hE32
  clear hE hE32 hb1 HA
  go_wp2_with (refine wpList_store_blk rfl 26 (.tmp 5) (.tmp 8) rfl w1.heap.size 0 26 [] (bvs (List.replicate 32 0)) [] (bvs E) rfl rfl (by rw [bvs_rep32]; exact heap_alloc_new _ _) rfl (by rw [bvs_length, bvs_length, HE32.out]; rfl) (by rw [bvs_length, HE32.out]; kernel_rfl) (bvs_one _) ?_; intro w2 hX2 hg2)
  have hk2 := after_store HB1.out hg2 rfl
  have hr2 : ReadB w2 w2.heap.size (some ⟨w1.heap.size, 0, none⟩) E := readB_of (by simpa using hX2)
  have HB2 := Lib.hid hk2.1
  have HR2 := Lib.hid (hr2.take 16)
  clear hX2 hg2 hk2 hr2 HB1
  generalize w1.heap.size = ge at *
  have hl16 : (E.take 16).length = 16 := by rw [List.length_take, HE32.out]; rfl
  refine (cloneN (l := E.take 16) hl16.symm (by omega) (by omega) HR2.out).mono ?_
  rintro e w3 ⟨v3, rfl, ho3, hb3⟩
  have Ho3 := Lib.hid ho3
  have HB3 := Lib.hid (HB2.out.trans (hb3.mono HB2.out.size))
  have HL2 := Lib.hid HB2.out.size
  clear ho3 hb3 HR2 HB2 hl16
  go_wp2_with fail
  go_ret
  exact ⟨v3, rfl, by rw [← HE.out]; exact OwnB.weak Ho3.out HL2.out, HB3.out⟩
set_option maxRecDepth 100000 in
set_option maxHeartbeats 4000000 in
theorem rtag_calls (k b : List UInt8) (hk : k.length = 32) (v : Value) (base : Nat) (w : World) (h : OwnB w base 5 v b) (hbase : base ≤ w.heap.size) (hbm : b.length ≤ 140737488351168) :
    Calls Tryd.prog 35 #[.agg (bvs k).toArray, v] w fun e w' => ∃ v, e = .returned v ∧ OwnB w' w.heap.size 5 v ((hmac k b).take 16) ∧ Below w.heap.size w w' := by
  obtain ⟨i0, hi0⟩ := isByte_of info5
  have Hi := Lib.hid hi0
  have H := Lib.hid h
  have Hk := Lib.hid hk
  have hs0 : ∀ o, (w.alloc o).heap.size = w.heap.size + 1 := fun o => by simp
  clear h hk hi0
  go_enter Tryd.func35, Tryd.ntmps35
  go_wp2_with fail
  have HA := Lib.hid ((Below.refl w.heap.size w).alloc (Nat.le_refl _) (.cells (bvs k).toArray 26))
  refine (rmofV (k := k) (b := b) (by rw [Hk.out]) (readB_of (heap_alloc_new w (.cells (bvs k).toArray 26))) (by rw [Hk.out]; omega) (by rw [Hk.out]; omega) (H.out.alloc _) hbm).mono ?_
  rintro e w1 ⟨rfl, hb1⟩
  rw [hs0] at hb1
  have HB1 := Lib.hid (HA.out.trans (hb1.mono (Nat.le_succ _)))
  have hE32 := hmac_len k b
  obtain ⟨E, hE⟩ : ∃ E, E = hmac k b := ⟨_, rfl⟩
  rw [← hE] at hE32 ⊢
  have HE := Lib.hid hE
  have HE32 := Lib.hid hE32
  clear hE hE32 hb1 HA
  go_wp2_with (first | (refine wpList_store_blk rfl 26 (.tmp 5) (.tmp 8) rfl w1.heap.size 0 26 [] (bvs (List.replicate 32 0)) [] (bvs E) rfl rfl (by rw [bvs_rep32]; exact heap_alloc_new _ _) rfl (by rw [bvs_length, bvs_length, HE32.out]; rfl) (by rw [bvs_length, HE32.out]; kernel_rfl) (bvs_one _) ?_; intro w2 hX2 hg2; have hk2 := after_store HB1.out hg2 rfl; have hr2 : ReadB w2 w2.heap.size (some ⟨w1.heap.size, 0, none⟩) E := readB_of (by simpa using hX2); have HB2 := Lib.hid hk2.1; have HR2 := Lib.hid (hr2.take 16); clear hX2 hg2 hk2 hr2 HB1) | (at_builtin; go_loud (refine wpList_appB _ rfl (.tmp 9) (.tmp 10) 22 rfl w2.heap.size 5 i0 Tryd.underlying22 Hi.out _ [] rfl (OwnB.lit0 w2 5 w2.heap.size w2.heap.size rfl (Nat.le_refl _)) w2.heap.size _ 16 32 (E.take 16) rfl (by rw [List.length_take, HE32.out]; rfl) (HR2.out.alloc (Nat.le_refl _) _) (by rw [List.length_take, HE32.out]; simp) (by simp) ?_); intro v3 w3 ho3 _ _ hb3; rw [List.nil_append] at ho3))
  go_ret
  exact ⟨v3, rfl, by rw [← HE.out]; exact OwnB.weak ho3 HB2.out.size, HB2.out.trans ((((Below.refl _ _).alloc (Nat.le_refl _) _).trans hb3).mono HB2.out.size)⟩
end Mc
end Go.Proofs.YtlkcibhdnicpkaaDoor

/- The closed case: what every right program seals and opens. -/
import Derived.Test.YtlkcibhdnicpkaaDoorMropen
import Derived.Test.YtlkcibhdnicpkaaDoorLit
namespace Go.Proofs.YtlkcibhdnicpkaaDoor
namespace Mc
open Go.RowKit Ba Sm
set_option linter.unusedVariables false
def k1 : List UInt8 := 1 :: List.replicate 31 0
def fox : List UInt8 := [84, 104, 101, 32, 113, 117, 105, 99, 107, 32, 98, 114, 111, 119, 110, 32, 102, 111, 120, 32, 106, 117, 109, 112, 115, 32, 111, 118, 101, 114, 32, 116, 104, 101, 32, 108, 97, 122, 121, 32, 100, 111, 103]
def kfox : List UInt8 := [107, 101, 121]
set_option maxRecDepth 100000 in
theorem fox_0 : (hmac kfox fox).getD 0 0 = 0xf7 ∧ (hmac kfox fox).getD 1 0 = 0xbc ∧ (hmac kfox fox).getD 31 0 = 0xd8 := by decide +kernel
theorem k1_lit : #[Value.int .u8 1, .int .u8 0, .int .u8 0, .int .u8 0, .int .u8 0, .int .u8 0, .int .u8 0, .int .u8 0, .int .u8 0, .int .u8 0, .int .u8 0, .int .u8 0, .int .u8 0, .int .u8 0, .int .u8 0, .int .u8 0, .int .u8 0, .int .u8 0, .int .u8 0, .int .u8 0, .int .u8 0, .int .u8 0, .int .u8 0, .int .u8 0, .int .u8 0, .int .u8 0, .int .u8 0, .int .u8 0, .int .u8 0, .int .u8 0, .int .u8 0, .int .u8 0] = (bvs k1).toArray := by rfl
theorem opn_seal (k hd b : List UInt8) : opn k hd (b ++ mtag k hd b) = (b, 0) := by
  have h16 := mtag_len k hd b
  have e : (b ++ mtag k hd b).length - 16 = b.length := by rw [List.length_append, h16]; omega
  unfold opn
  rw [if_neg (by rw [List.length_append, h16]; omega), e, List.take_left' rfl, List.drop_left' rfl, if_pos (beq_self_eq_true _)]
theorem mkB_lit (w : World) (E : TypeId) (vs : List Value) (l : List UInt8) (g : Nat) (hg : g = w.heap.size) (h : vs = bvs l) :
    ReadB (Li.mkB (w.alloc (.cells vs.toArray E)) g) (Li.mkB (w.alloc (.cells vs.toArray E)) g).heap.size (some ⟨g, 0, none⟩) l ∧ Below w.heap.size w (Li.mkB (w.alloc (.cells vs.toArray E)) g) := by
  subst hg
  refine ⟨?_, Li.mkB_below ((Below.refl _ _).alloc (Nat.le_refl _) _) (Nat.le_refl _) (by simp)⟩
  have h1 := ReadB.litN w E vs l w.heap.size rfl h
  rw [Li.mkB_size]
  intro hn
  obtain ⟨b, o, e, hb, hc⟩ := h1 hn
  exact ⟨b, o, e, by simpa using hb, fun k hk => by rw [Li.mkB_cell]; exact hc k hk⟩
theorem blk_cell {w : World} {g : Nat} {t : TypeId} {E : List UInt8} (hb : Blk w g t (bvs E).toArray) (i : Nat) (hi : i < E.length) : w.cell? ⟨g, i, none⟩ = some (.int .u8 ((E.getD i 0).toNat : Int)) := by
  have := Blk.cell hb i
  rw [List.getElem?_toArray, bvs_get _ _ hi] at this
  exact this
set_option maxRecDepth 100000 in
set_option maxHeartbeats 4000000 in
theorem awake_calls (w : World) (htab : Tab w) : Calls Tryd.prog 27 #[] w fun e w' => e = .returned (.bool true) ∧ Below w.heap.size w w' := by
  have Htab := Lib.hid htab
  clear htab
  have hcv := fun (g n c : Nat) (w' : World) => Li.conv_run (P := Tryd.prog) 22 5 Tryd.underlying22 Tryd.underlying5 g n c w'
  have hms := Li.mkB_size
  have h1 := mkB_lit w 5 [.int .u8 104] [104] w.heap.size rfl rfl
  have hs1 : (Li.mkB (w.alloc (.cells #[.int .u8 104] 5)) w.heap.size).heap.size = w.heap.size + 1 := by rw [Li.mkB_size]; simp
  have h2 := mkB_lit (Li.mkB (w.alloc (.cells #[.int .u8 104] 5)) w.heap.size) 5 [.int .u8 98, .int .u8 111, .int .u8 100, .int .u8 121] [98, 111, 100, 121] (w.heap.size + 1) hs1.symm rfl
  have H1 := Lib.hid h1
  have H2 := Lib.hid h2
  have HS1 := Lib.hid hs1
  obtain ⟨S1, hS1⟩ : ∃ S1, S1 = [98, 111, 100, 121] ++ mtag k1 [104] [98, 111, 100, 121] := ⟨_, rfl⟩
  have hop := opn_seal k1 [104] [98, 111, 100, 121]
  rw [← hS1] at hop
  have hl20 : S1.length = 20 := by rw [hS1, List.length_append, mtag_len]; rfl
  have HO := Lib.hid hop
  have HS := Lib.hid hS1
  have HL20 := Lib.hid hl20
  clear h1 h2 hs1 hS1 hop hl20
  go_enter Tryd.func27, Tryd.ntmps27
  go_wp2_with fail
  rw [k1_lit]
  have hb12 : Below w.heap.size w _ := H1.out.2.trans (H2.out.2.mono (by rw [HS1.out]; omega))
  have HB2 := Lib.hid hb12
  refine (seal_calls (k := k1) (hd := [104]) (b := [98, 111, 100, 121]) rfl rfl rfl ((H1.out.1.below (H2.out.2)).more (by exact H2.out.2.size)) H2.out.1 (Htab.out.below hb12) (by simp) (by simp) (by omega) (by simp) (by simp)).mono ?_
  rw [← HS.out]
  rintro e w3 ⟨v3, rfl, ho3, hb3⟩
  have HB3 := Lib.hid (bthen hb12 hb3)
  obtain ⟨A3, c3, rfl, t1, t2, t3, t4⟩ := ho3.opens
  have HR3 := Lib.hid t3
  have T1 := Lib.hid t1
  clear ho3 t3 t4 H1 H2 HS1 hb12 HB2 hb3 t1
  have h4 := mkB_lit w3 5 [.int .u8 104] [104] w3.heap.size rfl rfl
  have H4 := Lib.hid h4
  clear h4
  go_wp2_with fail
  rw [k1_lit]
  have hb4 := bthen HB3.out H4.out.2
  refine (open_calls (k := k1) (hd := [104]) (s := S1) rfl rfl rfl H4.out.1 ((HR3.out.below H4.out.2).more H4.out.2.size) (Htab.out.below hb4) (by simp) T1.out t2 (by simp) (by rw [HL20.out]; omega)).mono ?_
  rw [HO.out]
  rintro e w5 ⟨v5, rfl, ho5, hb5⟩
  have HB5 := Lib.hid (bthen hb4 hb5)
  obtain ⟨A5, c5, rfl, u1, u2, u3, u4⟩ := ho5.opens
  have HR5 : Hid (ReadB w5 w5.heap.size A5 [98, 111, 100, 121]) := Lib.hid u3
  clear ho5 u3 u4 H4 hb4 hb5
  have h6 := mkB_lit w5 5 [.int .u8 107, .int .u8 101, .int .u8 121] kfox w5.heap.size rfl rfl
  have hs6 : (Li.mkB (w5.alloc (.cells #[.int .u8 107, .int .u8 101, .int .u8 121] 5)) w5.heap.size).heap.size = w5.heap.size + 1 := by rw [Li.mkB_size]; simp
  have h7 := mkB_lit (Li.mkB (w5.alloc (.cells #[.int .u8 107, .int .u8 101, .int .u8 121] 5)) w5.heap.size) 5 [.int .u8 84, .int .u8 104, .int .u8 101, .int .u8 32, .int .u8 113, .int .u8 117, .int .u8 105, .int .u8 99, .int .u8 107, .int .u8 32, .int .u8 98, .int .u8 114, .int .u8 111, .int .u8 119, .int .u8 110, .int .u8 32, .int .u8 102, .int .u8 111, .int .u8 120, .int .u8 32, .int .u8 106, .int .u8 117, .int .u8 109, .int .u8 112, .int .u8 115, .int .u8 32, .int .u8 111, .int .u8 118, .int .u8 101, .int .u8 114, .int .u8 32, .int .u8 116, .int .u8 104, .int .u8 101, .int .u8 32, .int .u8 108, .int .u8 97, .int .u8 122, .int .u8 121, .int .u8 32, .int .u8 100, .int .u8 111, .int .u8 103] fox (w5.heap.size + 1) hs6.symm rfl
  have hs7 := h7.1
  have H6 := Lib.hid h6
  have H7 := Lib.hid h7
  have HS6 := Lib.hid hs6
  clear h6 h7 hs6 hs7
  go_wp2_with fail
  have hb7 := bthen H6.out.2 H7.out.2
  have hbb := ReadBB.lit1 (Li.mkB ((Li.mkB (w5.alloc (.cells #[.int .u8 107, .int .u8 101, .int .u8 121] 5)) w5.heap.size).alloc (.cells [.int .u8 84, .int .u8 104, .int .u8 101, .int .u8 32, .int .u8 113, .int .u8 117, .int .u8 105, .int .u8 99, .int .u8 107, .int .u8 32, .int .u8 98, .int .u8 114, .int .u8 111, .int .u8 119, .int .u8 110, .int .u8 32, .int .u8 102, .int .u8 111, .int .u8 120, .int .u8 32, .int .u8 106, .int .u8 117, .int .u8 109, .int .u8 112, .int .u8 115, .int .u8 32, .int .u8 111, .int .u8 118, .int .u8 101, .int .u8 114, .int .u8 32, .int .u8 116, .int .u8 104, .int .u8 101, .int .u8 32, .int .u8 108, .int .u8 97, .int .u8 122, .int .u8 121, .int .u8 32, .int .u8 100, .int .u8 111, .int .u8 103].toArray 5)) (w5.heap.size + 1)) 22 (some ⟨w5.heap.size + 1, 0, none⟩) 43 43 fox _ (w5.heap.size + 2) (by rw [Li.mkB_size]; simp [Li.mkB_size]) (Nat.le_refl _) rfl H7.out.1 (by decide) (by omega)
  have hb8 := ((Below.refl _ _).alloc (Nat.le_refl _) (.cells #[.slice (some ⟨w5.heap.size + 1, 0, none⟩) 43 43] 22) : Below (Li.mkB ((Li.mkB (w5.alloc (.cells #[.int .u8 107, .int .u8 101, .int .u8 121] 5)) w5.heap.size).alloc (.cells [.int .u8 84, .int .u8 104, .int .u8 101, .int .u8 32, .int .u8 113, .int .u8 117, .int .u8 105, .int .u8 99, .int .u8 107, .int .u8 32, .int .u8 98, .int .u8 114, .int .u8 111, .int .u8 119, .int .u8 110, .int .u8 32, .int .u8 102, .int .u8 111, .int .u8 120, .int .u8 32, .int .u8 106, .int .u8 117, .int .u8 109, .int .u8 112, .int .u8 115, .int .u8 32, .int .u8 111, .int .u8 118, .int .u8 101, .int .u8 114, .int .u8 32, .int .u8 116, .int .u8 104, .int .u8 101, .int .u8 32, .int .u8 108, .int .u8 97, .int .u8 122, .int .u8 121, .int .u8 32, .int .u8 100, .int .u8 111, .int .u8 103].toArray 5)) (w5.heap.size + 1)).heap.size _ _)
  have hb58 := bthen hb7 hb8
  refine (mofN (k := kfox) (ps := [fox]) rfl rfl (((H6.out.1.below H7.out.2).below (hb8.mono H7.out.2.size)).more (Nat.le_trans H7.out.2.size hb8.size)) (hbb.more (by simp [Li.mkB_size])) ((Htab.out.below HB5.out).below hb58) (by decide) (by omega) (by decide) (by decide) (by omega) (by decide) (by decide)).mono ?_
  rw [show [fox].flatten = fox from by simp]
  have hE32 := hmac_len kfox fox
  obtain ⟨f0, f1, f31⟩ := fox_0
  obtain ⟨E, hE⟩ : ∃ E, E = hmac kfox fox := ⟨_, rfl⟩
  rw [← hE] at hE32 f0 f1 f31 ⊢
  rintro e w8 ⟨rfl, hb9⟩
  have HB8 := Lib.hid (HB5.out.trans ((hb58.trans (hb9.mono (hb58.size))).mono HB5.out.size))
  have HR8 := Lib.hid ((HR5.out.below (hb58.trans (hb9.mono (hb58.size)))).more (hb58.trans (hb9.mono (hb58.size))).size)
  have HE32 := Lib.hid hE32
  have F0 := Lib.hid f0
  have F1 := Lib.hid f1
  have F31 := Lib.hid f31
  clear hE hE32 hb7 hbb hb8 hb58 hb9 H6 H7 HS6 HB5 HR5 f0 f1 f31
  go_wp2_with (refine wpList_store_blk rfl 26 (.tmp 4) (.tmp 24) rfl w8.heap.size 0 26 [] (bvs (List.replicate 32 0)) [] (bvs E) rfl rfl (by rw [bvs_rep32]; exact heap_alloc_new _ _) rfl (by rw [bvs_length, bvs_length, HE32.out]; rfl) (by rw [bvs_length, HE32.out]; kernel_rfl) (bvs_one _) ?_; intro w9 hX9 hg9; have hk9 := after_store HB8.out hg9 rfl; have hX9' : Blk w9 w8.heap.size 26 (bvs E).toArray := (by simpa using hX9); have HX9 := Lib.hid hX9'; have hc0 := blk_cell HX9.out 0 (by rw [HE32.out]; omega); have hc1 := blk_cell HX9.out 1 (by rw [HE32.out]; omega); have hc31 := blk_cell HX9.out 31 (by rw [HE32.out]; omega); rw [F0.out] at hc0; rw [F1.out] at hc1; rw [F31.out] at hc31; have HB9 := Lib.hid hk9.1; have hcs := run_strof (P := Tryd.prog) w9 22 5 Tryd.underlying22 Tryd.underlying5 A5 c5 _ [98, 111, 100, 121] (HR8.out.below (only_after ((Below.refl _ _).alloc (Nat.le_refl _) _) hg9 (Nat.le_refl _))) 9 Tryd.underlying9; simp only [List.length_cons, List.length_nil, Nat.zero_add, Nat.reduceAdd] at hcs; have hL : ((S1.length : Int) == 20) = true := (by rw [HL20.out]; rfl); clear hX9 hX9' hg9 hk9; generalize w8.heap.size = g8 at *)
  refine (equal_calls (a := []) (b := []) rfl rfl ReadB.nil ReadB.nil (by simp) (by simp)).mono ?_
  rintro e w10 ⟨rfl, hb10⟩
  have HB10 := Lib.hid (HB9.out.trans (hb10.mono HB9.out.size))
  clear hb10
  go_wp2_with fail
  go_ret
  exact ⟨rfl, HB10.out⟩
end Mc
end Go.Proofs.YtlkcibhdnicpkaaDoor

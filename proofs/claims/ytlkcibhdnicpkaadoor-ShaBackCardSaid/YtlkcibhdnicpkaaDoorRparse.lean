/- A sum's digits are read, by the document's answer: the walk. -/
import Derived.Test.YtlkcibhdnicpkaaDoorHexr
namespace Go.Proofs.YtlkcibhdnicpkaaDoor
namespace Hx
open Go.RowKit Ba Sm
set_option linter.unusedVariables false
theorem dix_first (n : Nat) (h : n < 16) (c : UInt8) (e : dg.getD n 0 = c) : dix c = n := by
  have := dg_dix ⟨n, h⟩
  rw [← e]; exact this
theorem dix_none (c : UInt8) (h : ∀ k, k < 16 → dg.getD k 0 ≠ c) : dix c = 16 := by
  rcases Nat.lt_or_ge (dix c) 16 with h1 | h1
  · exact absurd (dix_dg c h1) (h _ h1)
  · have := dix_le c; omega
set_option maxRecDepth 100000 in
set_option maxHeartbeats 2000000 in
theorem digit_calls (c : UInt8) (w : World) : Calls Tryd.prog 46 #[.int .u8 (c.toNat : Int)] w fun e w' => e = .returned (.int .u8 (dix c : Int)) ∧ w' = w := by
  go_enter Tryd.func46, Tryd.ntmps46
  go_wp2_with fail
  go_loopg [3] 16 (fun n v wr => ∃ i : Nat, i ≤ 16 ∧ n = 16 - i ∧ v = .int .u8 i ∧ (∀ k, k < i → dg.getD k 0 ≠ c) ∧ wr = w)
  case atStart => exact ⟨0, by omega, rfl, rfl, fun k hk => absurd hk (by omega), rfl⟩
  case round =>
    obtain ⟨i, hi16, hn, rfl, hk, rfl⟩ := hrel
    have Hn := Lib.hid hn
    have Hk := Lib.hid hk
    clear hn hk
    by_cases hil : i < 16
    · have hwi : IntKind.u8.wrap ((i : Int) + 1) = ((i + 1 : Nat) : Int) := by rw [IntKind.wrap_u8]; omega
      go_wp2_with fail
      · rename_i hlt hq
        simp only [dg_get] at hq
        have he : dg.getD i 0 = c := UInt8.toNat_inj.1 (by have := beq_iff_eq.1 hq; omega)
        have hd := dix_first i hil c he
        have Hd := Lib.hid hd
        clear hd he
        go_ret
        exact ⟨by rw [Hd.out]; rfl, rfl⟩
      · rename_i hlt hq
        simp only [dg_get] at hq
        have he : dg.getD i 0 ≠ c := fun e => by rw [e, beq_self_eq_true] at hq; cases hq
        have He := Lib.hid he
        clear he
        go_roundg (16 - (i + 1))
        case rel =>
          refine ⟨i + 1, by omega, rfl, by simp, fun k hk => ?_, rfl⟩
          by_cases h : k = i
          · subst h; exact He.out
          · exact Hk.out k (by omega)
        all_goals (have := Hn.out; omega)
    · have hd := dix_none c (fun k hk => Hk.out k (by omega))
      have Hd := Lib.hid hd
      clear hd
      go_wp2_with fail
      go_ret
      exact ⟨by rw [Hd.out]; rfl, rfl⟩
theorem pp_two (s : List UInt8) (i : Nat) (h : i < 32) (hd : ∀ k, k < 2 * i → dw s k < 16) : (pp s (2 * i)).set i (UInt8.ofNat (16 * dw s (2 * i) + dw s (2 * i + 1))) = pp s (2 * (i + 1)) := by
  have h1 := pp_set s (2 * i) (by omega)
  have h2 := pp_set s (2 * i + 1) (by omega)
  rw [show 2 * i / 2 = i by omega] at h1
  rw [show (2 * i + 1) / 2 = i by omega, ← h1, List.set_set] at h2
  rw [show 2 * (i + 1) = 2 * i + 1 + 1 by omega, ← h2]
  congr 1
  unfold vat zat
  rw [if_neg (by omega), show 2 * i + 1 - 1 = 2 * i by omega, Nat.mul_comm]
set_option maxRecDepth 100000 in
set_option maxHeartbeats 2000000 in
theorem rparse_short (r : List UInt8) (h64 : ¬ r.length = 64) (w : World) : Calls Tryd.prog 22 #[.string (S r)] w
    fun e w' => e = .returned (.tuple #[.agg (bvs (parse r).1).toArray, .int .i64 ((parse r).2 : Int)]) ∧ Below w.heap.size w w' := by
  have hsz : (((S r).size : Int) == 64) = false := by rw [S_size]; simpa using (by omega : ¬ (r.length : Int) = 64)
  have hsz2 : (((S r).size : Int) != 64) = true := by rw [bne, hsz]; rfl
  have hbad : ¬ good r := fun h => h64 h.1
  have Hbad := Lib.hid hbad
  clear hbad h64
  generalize S r = sr at *
  go_enter Tryd.func22, Tryd.ntmps22
  go_wp2_with (first
    | (refine wpList_load_blk rfl 26 (.tmp 4) rfl (w.heap.size + 1) 0 26 [] (bvs (List.replicate 32 0)) [] rfl (by simpa using (by rw [rep32]; exact heap_alloc2_new _ _ _)) rfl _ Tryd.underlying26 rfl (by kernel_rfl) ?_)
    | (refine wpList_store_blk rfl 26 (.tmp 2) (.tmp 11) rfl w.heap.size 0 26 [] (bvs (List.replicate 32 0)) [] (bvs (List.replicate 32 0)) rfl rfl (by rw [rep32]; exact Blk.alloc (heap_alloc_new _ _) _) rfl rfl (by kernel_rfl) (bvs_one _) ?_; intro w9 hR9 hg9))
  have hb : Below w.heap.size w w9 := only_after (((Below.refl _ _).alloc (Nat.le_refl _) _).alloc (by simp) _) hg9 (Nat.le_refl _)
  refine bodyPost_ret (v := .tuple #[.agg (bvs (List.replicate 32 0)).toArray, .int .i64 4]) (results_row_tmp (p := 2) (u := 3) (ty := 26) (by kernel_rfl) _ w9 w.heap.size 26 (bvs (List.replicate 32 0)).toArray _ rfl (by simp only [List.nil_append, List.append_nil] at hR9; exact hR9) Tryd.underlying26 rfl (by kernel_rfl)) rfl ⟨?_, hb⟩
  rw [parse_bad r Hbad.out]
  rfl
set_option maxRecDepth 100000 in
set_option maxHeartbeats 2000000 in
theorem rparse_long (r : List UInt8) (h64 : r.length = 64) (w : World) : Calls Tryd.prog 22 #[.string (S r)] w
    fun e w' => e = .returned (.tuple #[.agg (bvs (parse r).1).toArray, .int .i64 ((parse r).2 : Int)]) ∧ Below w.heap.size w w' := by
  have hsz : (S r).size = 64 := by rw [S_size, h64]
  have hget : ∀ i, i < 64 → (S r)[i]? = some (r.getD i 0) := fun i hi => S_get r i (by omega)
  generalize S r = sr at *
  have Hget := Lib.hid hget
  have H64 := Lib.hid h64
  have Hsz := Lib.hid hsz
  clear hget h64
  go_enter Tryd.func22, Tryd.ntmps22
  go_wp2_with fail
  obtain ⟨hb0, hR0, hX0⟩ := two_start (w := w) (C1 := (bvs (List.replicate 32 0)).toArray) (C2 := (bvs (List.replicate 32 0)).toArray) (t1 := 26) (t2 := 26)
  have Hb1 := Lib.hid hb0
  have HR1 := Lib.hid hR0
  have HX1 := Lib.hid hX0
  clear hb0 hR0 hX0
  go_loopg [5] 32 (fun n v wr => ∃ i : Nat, i ≤ 32 ∧ n = 32 - i ∧ v = .int .i64 i ∧ (∀ k, k < 2 * i → dw r k < 16) ∧ Blk wr (w.heap.size + 1) 26 (bvs (pp r (2 * i))).toArray ∧ Blk wr w.heap.size 26 (bvs (List.replicate 32 0)).toArray ∧ Below w.heap.size w wr)
  case atStart => exact ⟨0, Nat.zero_le _, rfl, rfl, fun k hk => absurd hk (by omega), by rw [show 2 * 0 = 0 from rfl, pp_0]; exact HX1.out, HR1.out, Hb1.out⟩
  case round =>
    obtain ⟨i, hi, hn, rfl, hd, hX, hR, hbw⟩ := hrel
    have HX := Lib.hid hX
    have HR := Lib.hid hR
    have Hbw := Lib.hid hbw
    have Hd := Lib.hid hd
    have Hn := Lib.hid hn
    clear hX hR hbw hd hn
    by_cases hil : i < 32
    · obtain ⟨c1, hc1⟩ : ∃ c, c = r.getD (2 * i) 0 := ⟨_, rfl⟩
      obtain ⟨c2, hc2⟩ : ∃ c, c = r.getD (2 * i + 1) 0 := ⟨_, rfl⟩
      have hg1 : ∀ h, sr[(2 * (i : Int)).toNat]'h = c1 := by
        intro h
        have h1 := Hget.out (2 * i) (by omega)
        rw [getElem?_pos sr (2 * i) (by omega)] at h1
        injection h1 with h1
        rw [hc1, ← h1]
        congr 1
      have hg2 : ∀ h, sr[(2 * (i : Int) + 1).toNat]'h = c2 := by
        intro h
        have h1 := Hget.out (2 * i + 1) (by omega)
        rw [getElem?_pos sr (2 * i + 1) (by omega)] at h1
        injection h1 with h1
        rw [hc2, ← h1]
        congr 1
      have hd1 : dw r (2 * i) = dix c1 := by rw [hc1, dw]
      have hd2 : dw r (2 * i + 1) = dix c2 := by rw [hc2, dw]
      have b1 : (0 : Int) ≤ 2 * (i : Int) ∧ 2 * (i : Int) < 64 := by omega
      have b2 : (0 : Int) ≤ 2 * (i : Int) + 1 ∧ 2 * (i : Int) + 1 < 64 := by omega
      have w1 : IntKind.i64.wrap (2 * (i : Int)) = 2 * (i : Int) := by rw [IntKind.wrap_i64]; omega
      have w2 : IntKind.i64.wrap (2 * (i : Int) + 1) = 2 * (i : Int) + 1 := by rw [IntKind.wrap_i64]; omega
      have Hd1 := Lib.hid hd1
      have Hd2 := Lib.hid hd2
      clear hc1 hc2 hd1 hd2
      go_wp2_with fail
      refine CanL.region (fun _ => True) 1000 [(0, 2), (1, 2), (2, 2), (3, 2), (5, 2), (6, 2), (7, 2), (8, 2), (9, 2), (4, 0), (10, 0), (11, 2), (12, 2)] (by kernel_rfl) (by kernel_rfl) trivial ?_
      repeat (first | (refine CanL.skip rfl ?_ (fun K hK => ?_); (focus (go_simp; done)); go_simp; refine hK _ ?_; clear hK K) | (refine CanL.pur rfl ?_ ?_; (focus (go_simp; done)); refine ⟨?_, ?_, ?_⟩; rotate_left; (focus (intro w'; go_simp; rfl)); (focus (intro K hK; go_simp; refine hK _ ?_; clear hK K))) | (refine CanL.held rfl ?_ ?_; (focus (go_simp; done)); refine ⟨?_, ?_, ?_⟩; rotate_left; (focus (intro w' hS'; (try dsimp only at hS'); go_simp; rfl)); (focus (intro K hK; go_simp; refine hK _ ?_; clear hK K))))
      refine CanL.imp rfl (fun K hK => ?_)
      go_simp
      refine (digit_calls c1 _).mono ?_
      rintro e w3 ⟨rfl, rfl⟩
      go_simp
      refine hK.out _ _ trivial ?_
      clear hK K
      refine CanL.imp rfl (fun K hK => ?_)
      go_simp
      refine (digit_calls c2 _).mono ?_
      rintro e w4 ⟨rfl, rfl⟩
      go_simp
      refine hK.out _ _ trivial ?_
      clear hK K
      repeat (first | (refine CanL.skip rfl ?_ (fun K hK => ?_); (focus (go_simp; done)); go_simp; refine hK _ ?_; clear hK K) | (refine CanL.pur rfl ?_ ?_; (focus (go_simp; done)); refine ⟨?_, ?_, ?_⟩; rotate_left; (focus (intro w'; go_simp; rfl)); (focus (intro K hK; go_simp; refine hK _ ?_; clear hK K))) | (refine CanL.held rfl ?_ ?_; (focus (go_simp; done)); refine ⟨?_, ?_, ?_⟩; rotate_left; (focus (intro w' hS'; (try dsimp only at hS'); go_simp; rfl)); (focus (intro K hK; go_simp; refine hK _ ?_; clear hK K))))
      refine CanL.done ?_
      obtain ⟨d1, h1⟩ : ∃ d, d = dix c1 := ⟨_, rfl⟩
      obtain ⟨d2, h2⟩ : ∃ d, d = dix c2 := ⟨_, rfl⟩
      rw [← h1, ← h2]
      have l1 : d1 ≤ 16 := by rw [h1]; exact dix_le _
      have l2 : d2 ≤ 16 := by rw [h2]; exact dix_le _
      have HR2 : Hid (Blk wr.drew w.heap.size 26 (bvs (List.replicate 32 0)).toArray) := HR
      have HX2 : Hid (Blk wr.drew (w.heap.size + 1) 26 (bvs (pp r (2 * i))).toArray) := HX
      have Hb2 : Hid (Below w.heap.size w wr.drew) := Lib.hid Hbw.out.drew
      have H1 := Lib.hid h1
      have H2 := Lib.hid h2
      clear HX HR Hbw h1 h2 b1 b2 w1 w2 hg1 hg2
      generalize wr.drew = W at *
      by_cases hbad : d1 = 16 ∨ d2 = 16
      · have hng : ¬ good r := by
          rcases hbad with h | h
          · exact dw_bad (i := 2 * i) (by rw [Hd1.out, ← H1.out]; omega) (by omega)
          · exact dw_bad (i := 2 * i + 1) (by rw [Hd2.out, ← H2.out]; omega) (by omega)
        have Hng := Lib.hid hng
        clear hng
        by_cases hd1 : d1 = 16
        · have t1 : ((d1 : Int) == 16) = true := by simpa using (by omega : (d1 : Int) = 16)
          clear hbad hd1
          go_wp2_with (refine wpList_store_blk rfl 26 (.tmp 2) (.tmp 33) rfl w.heap.size 0 26 [] (bvs (List.replicate 32 0)) [] (bvs (List.replicate 32 0)) rfl rfl (by simpa using HR2.out) rfl rfl (by kernel_rfl) (bvs_one _) ?_; intro w9 hR9 hg9)
          refine bodyPost_ret (v := .tuple #[.agg (bvs (List.replicate 32 0)).toArray, .int .i64 4]) (results_row_tmp (p := 2) (u := 3) (ty := 26) (by kernel_rfl) _ w9 w.heap.size 26 (bvs (List.replicate 32 0)).toArray _ rfl (by simp only [List.nil_append, List.append_nil] at hR9; exact hR9) Tryd.underlying26 rfl (by kernel_rfl)) rfl ⟨?_, ?_⟩
          · rw [parse_bad r Hng.out]
            rfl
          · exact Hb2.out.trans (below_of_only hg9 (Nat.le_refl _) Hb2.out.size)
        · have t1 : ((d1 : Int) == 16) = false := by simpa using (by omega : ¬ (d1 : Int) = 16)
          have t2 : ((d2 : Int) == 16) = true := by simpa using (by omega : (d2 : Int) = 16)
          clear hbad hd1
          go_wp2_with (refine wpList_store_blk rfl 26 (.tmp 2) (.tmp 33) rfl w.heap.size 0 26 [] (bvs (List.replicate 32 0)) [] (bvs (List.replicate 32 0)) rfl rfl (by simpa using HR2.out) rfl rfl (by kernel_rfl) (bvs_one _) ?_; intro w9 hR9 hg9)
          refine bodyPost_ret (v := .tuple #[.agg (bvs (List.replicate 32 0)).toArray, .int .i64 4]) (results_row_tmp (p := 2) (u := 3) (ty := 26) (by kernel_rfl) _ w9 w.heap.size 26 (bvs (List.replicate 32 0)).toArray _ rfl (by simp only [List.nil_append, List.append_nil] at hR9; exact hR9) Tryd.underlying26 rfl (by kernel_rfl)) rfl ⟨?_, ?_⟩
          · rw [parse_bad r Hng.out]
            rfl
          · exact Hb2.out.trans (below_of_only hg9 (Nat.le_refl _) Hb2.out.size)
      · have t1 : ((d1 : Int) == 16) = false := by simpa using (by omega : ¬ (d1 : Int) = 16)
        have t2 : ((d2 : Int) == 16) = false := by simpa using (by omega : ¬ (d2 : Int) = 16)
        have e1 : IntKind.u8.wrap (16 * (d1 : Int)) = 16 * (d1 : Int) := by rw [IntKind.wrap_u8]; omega
        have e2 : IntKind.u8.wrap (16 * (d1 : Int) + (d2 : Int)) = ((UInt8.ofNat (16 * d1 + d2)).toNat : Int) := by rw [IntKind.wrap_u8, UInt8.toNat_ofNat']; omega
        have hcell := Blk.cell HX2.out i
        rw [List.getElem?_toArray, bvs_get _ _ (by rw [pp_len]; omega)] at hcell
        have hfz := Blk.frozen HX2.out i
        obtain ⟨va, hva⟩ : ∃ va, va = UInt8.ofNat (16 * d1 + d2) := ⟨_, rfl⟩
        rw [← hva] at e2
        have Hva := Lib.hid hva
        have Hok : Hid (d1 < 16 ∧ d2 < 16) := Lib.hid (by omega)
        clear hva hbad
        go_wp2_with fail
        go_roundg (32 - (i + 1))
        case rel =>
          refine ⟨i + 1, by omega, rfl, by simp, ?_, ?_, HR2.out.far (by simp) _, Hb2.out.setCell (by simp) _⟩
          · intro k hk
            by_cases k1 : k = 2 * i
            · rw [k1, Hd1.out, ← H1.out]; have := Hok.out; omega
            · by_cases k2 : k = 2 * i + 1
              · rw [k2, Hd2.out, ← H2.out]; have := Hok.out; omega
              · exact Hd.out k (by omega)
          · have := Blk.set_ HX2.out i (.int .u8 (va.toNat : Int))
            rw [toArray_set] at this
            have e : (bvs (pp r (2 * i))).set i (.int .u8 (va.toNat : Int)) = bvs (pp r (2 * (i + 1))) := by
              rw [← pp_two r i hil Hd.out, Hd1.out, Hd2.out, ← H1.out, ← H2.out, ← Hva.out]
              simp [bvs, List.map_set, bv]
            rw [e] at this
            exact this
        all_goals (have := Hn.out; omega)
    · have hi32 : i = 32 := by omega
      have hgood : good r := ⟨H64.out, fun k hk => Hd.out k (by omega)⟩
      obtain ⟨H, hH⟩ : ∃ H, H = pp r (2 * i) := ⟨_, rfl⟩
      have hHl : H.length = 32 := by rw [hH]; exact pp_len _ _
      have hX := HX.out
      rw [← hH] at hX
      have HX2 := Lib.hid hX
      have HH := Lib.hid hH
      have HHl := Lib.hid hHl
      have Hi32 := Lib.hid hi32
      have Hgood := Lib.hid hgood
      clear hX hH hHl hi32 hgood
      go_wp2_with (first
        | (refine wpList_load_blk rfl 26 (.tmp 4) rfl (w.heap.size + 1) 0 26 [] (bvs H) [] rfl (by simpa using HX2.out) rfl _ Tryd.underlying26 rfl (by rw [bvs_length, HHl.out]; kernel_rfl) ?_)
        | (refine wpList_store_blk rfl 26 (.tmp 2) (.tmp 40) rfl w.heap.size 0 26 [] (bvs (List.replicate 32 0)) [] (bvs H) rfl rfl (by simpa using HR.out) rfl (by rw [bvs_length, bvs_length, HHl.out]; rfl) (by rw [bvs_length, HHl.out]; kernel_rfl) (bvs_one _) ?_; intro w9 hR9 hg9))
      refine bodyPost_ret (v := .tuple #[.agg (bvs H).toArray, .int .i64 0]) (results_row_tmp (p := 2) (u := 3) (ty := 26) (by kernel_rfl) _ w9 w.heap.size 26 (bvs H).toArray _ rfl (by simp only [List.nil_append, List.append_nil] at hR9; exact hR9) Tryd.underlying26 rfl (by rw [List.size_toArray, bvs_length, HHl.out]; kernel_rfl)) rfl ⟨?_, ?_⟩
      · rw [parse_good r Hgood.out, HH.out, Hi32.out]
        rfl
      · exact Hbw.out.trans (below_of_only hg9 (Nat.le_refl _) Hbw.out.size)
theorem rparse_calls (r : List UInt8) (w : World) : Calls Tryd.prog 22 #[.string (S r)] w
    fun e w' => e = .returned (.tuple #[.agg (bvs (parse r).1).toArray, .int .i64 ((parse r).2 : Int)]) ∧ Below w.heap.size w w' := by
  by_cases h64 : r.length = 64
  · exact rparse_long r h64 w
  · exact rparse_short r h64 w
end Hx
end Go.Proofs.YtlkcibhdnicpkaaDoor

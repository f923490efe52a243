/- A sum's digits are read, by the program: the walk. -/
import Derived.Test.YtlkcibhdnicpkaaDoorHp
namespace Go.Proofs.YtlkcibhdnicpkaaDoor
namespace Hx
open Go.RowKit Ba Sm
set_option linter.unusedVariables false
theorem rep32 : #[Value.int .u8 0, .int .u8 0, .int .u8 0, .int .u8 0, .int .u8 0, .int .u8 0, .int .u8 0, .int .u8 0, .int .u8 0, .int .u8 0, .int .u8 0, .int .u8 0, .int .u8 0, .int .u8 0, .int .u8 0, .int .u8 0, .int .u8 0, .int .u8 0, .int .u8 0, .int .u8 0, .int .u8 0, .int .u8 0, .int .u8 0, .int .u8 0, .int .u8 0, .int .u8 0, .int .u8 0, .int .u8 0, .int .u8 0, .int .u8 0, .int .u8 0, .int .u8 0] = (bvs (List.replicate 32 0)).toArray := rfl
theorem S_get (r : List UInt8) (i : Nat) (h : i < r.length) : (S r)[i]? = some (r.getD i 0) := by
  have h1 : i < (S r).size := by rw [S_size]; exact h
  rw [getElem?_pos (S r) i h1]
  congr 1
  show (S r).data[i] = _
  simp [S, List.getD, h]
theorem two_start {w : World} {C1 C2 : Array Value} {t1 t2 : TypeId} : Below w.heap.size w ((w.alloc (.cells C1 t1)).alloc (.cells C2 t2)) ∧ Blk ((w.alloc (.cells C1 t1)).alloc (.cells C2 t2)) w.heap.size t1 C1 ∧ Blk ((w.alloc (.cells C1 t1)).alloc (.cells C2 t2)) (w.heap.size + 1) t2 C2 :=
  ⟨((Below.refl _ _).alloc (Nat.le_refl _) _).alloc (by simp) _, Blk.alloc (heap_alloc_new _ _) _, heap_alloc2_new _ _ _⟩

theorem results_row_tmp {P : Program} {fn : Func} {p u : Tmp} {ty : TypeId} (h : fn.results = #[.cell p ty, .tmp u]) (tmps : Array Value) (w : World) (g : Nat) (t : TypeId) (cs : Array Value) (d : TypeDesc)
    (hp : tmps.getD p undef = .pointer (some ⟨g, 0, none⟩)) (hg : w.heap[g]? = some (.cells cs t (0, 0)))
    (hu : P.underlying ty = some d) (hd : (match d with | .struct _ | .array _ _ => true | _ => false) = true) (hi : (P.info? ty).map (·.size) = some cs.size) :
    (results fn tmps).run P w = .ok (.tuple #[.agg cs, tmps.getD u undef]) w := by
  rw [results_cell_tmp h, hp]
  simp [asAddr, run_loadVar_row w g t ty cs (0, 0) d hg hu hd hi]
theorem dw_bad {r : List UInt8} {i : Nat} (h : ¬ dw r i < 16) (hi : i < 64) : ¬ good r := fun hg => h (hg.2 i hi)
set_option maxRecDepth 100000 in
set_option maxHeartbeats 2000000 in
theorem parse_short (r : List UInt8) (h64 : ¬ r.length = 64) (w : World) : Calls Tryd.prog 21 #[.string (S r)] w
    fun e w' => e = .returned (.tuple #[.agg (bvs (parse r).1).toArray, .int .i64 ((parse r).2 : Int)]) ∧ Below w.heap.size w w' := by
  have hsz : (((S r).size : Int) == 64) = false := by rw [S_size]; simpa using (by omega : ¬ (r.length : Int) = 64)
  have hsz2 : (((S r).size : Int) != 64) = true := by rw [bne, hsz]; rfl
  have hbad : ¬ good r := fun h => h64 h.1
  have Hbad := Lib.hid hbad
  clear hbad h64
  generalize S r = sr at *
  go_enter Tryd.func21, Tryd.ntmps21
  go_wp2_with (first
    | (refine wpList_load_blk rfl 26 (.tmp 4) rfl (w.heap.size + 1) 0 26 [] (bvs (List.replicate 32 0)) [] rfl (by simpa using (by rw [rep32]; exact heap_alloc2_new _ _ _)) rfl _ Tryd.underlying26 rfl (by kernel_rfl) ?_)
    | (refine wpList_store_blk rfl 26 (.tmp 2) (.tmp 10) rfl w.heap.size 0 26 [] (bvs (List.replicate 32 0)) [] (bvs (List.replicate 32 0)) rfl rfl (by rw [rep32]; exact Blk.alloc (heap_alloc_new _ _) _) rfl rfl (by kernel_rfl) (bvs_one _) ?_; intro w9 hR9 hg9))
  have hb : Below w.heap.size w w9 := only_after (((Below.refl _ _).alloc (Nat.le_refl _) _).alloc (by simp) _) hg9 (Nat.le_refl _)
  refine bodyPost_ret (v := .tuple #[.agg (bvs (List.replicate 32 0)).toArray, .int .i64 4]) (results_row_tmp (p := 2) (u := 3) (ty := 26) (by kernel_rfl) _ w9 w.heap.size 26 (bvs (List.replicate 32 0)).toArray _ rfl (by simp only [List.nil_append, List.append_nil] at hR9; exact hR9) Tryd.underlying26 rfl (by kernel_rfl)) rfl ⟨?_, hb⟩
  rw [parse_bad r Hbad.out]
  rfl
set_option maxRecDepth 100000 in
set_option maxHeartbeats 2000000 in
theorem parse_long (r : List UInt8) (h64 : r.length = 64) (w : World) : Calls Tryd.prog 21 #[.string (S r)] w
    fun e w' => e = .returned (.tuple #[.agg (bvs (parse r).1).toArray, .int .i64 ((parse r).2 : Int)]) ∧ Below w.heap.size w w' := by
  have hsz : (S r).size = 64 := by rw [S_size, h64]
  have hget : ∀ i, i < 64 → (S r)[i]? = some (r.getD i 0) := fun i hi => S_get r i (by omega)
  generalize S r = sr at *
  have Hget := Lib.hid hget
  have H64 := Lib.hid h64
  have Hsz := Lib.hid hsz
  clear hget h64
  go_enter Tryd.func21, Tryd.ntmps21
  go_wp2
  obtain ⟨hb0, hR0, hX0⟩ := two_start (w := w) (C1 := (bvs (List.replicate 32 0)).toArray) (C2 := (bvs (List.replicate 32 0)).toArray) (t1 := 26) (t2 := 26)
  have hb1 := hb0.alloc hb0.size (.stringIter sr 0)
  have hR1 := hR0.alloc (.stringIter sr 0)
  have hX1 := hX0.alloc (.stringIter sr 0)
  have hI1 := heap_alloc_new ((w.alloc (.cells (bvs (List.replicate 32 0)).toArray 26)).alloc (.cells (bvs (List.replicate 32 0)).toArray 26)) (.stringIter sr 0)
  rw [show ((w.alloc (.cells (bvs (List.replicate 32 0)).toArray 26)).alloc (.cells (bvs (List.replicate 32 0)).toArray 26)).heap.size = w.heap.size + 1 + 1 by simp] at hI1
  have Hb1 := Lib.hid hb1
  have HR1 := Lib.hid hR1
  have HX1 := Lib.hid hX1
  have HI1 := Lib.hid hI1
  clear hb0 hR0 hX0 hb1 hR1 hX1 hI1
  go_loopg [5, 6] 64 (fun n _ _ wr => ∃ i : Nat, i ≤ 64 ∧ n = 64 - i ∧ (∀ k, k < i → dw r k < 16) ∧ wr.heap[w.heap.size + 1 + 1]? = some (.stringIter sr i) ∧ Blk wr (w.heap.size + 1) 26 (bvs (pp r i)).toArray ∧ Blk wr w.heap.size 26 (bvs (List.replicate 32 0)).toArray ∧ Below w.heap.size w wr)
  case atStart => exact ⟨0, Nat.zero_le _, rfl, fun k hk => absurd hk (by omega), HI1.out, by rw [pp_0]; exact HX1.out, HR1.out, Hb1.out⟩
  case round =>
    obtain ⟨i, hi, hn, hd, hI, hX, hR, hbw⟩ := hrel
    have hlI : w.heap.size + 1 + 1 < wr.heap.size := by
      rcases Nat.lt_or_ge (w.heap.size + 1 + 1) wr.heap.size with h | h
      · exact h
      · rw [Array.getElem?_eq_none h] at hI; cases hI
    have HI := Lib.hid hI
    have HX := Lib.hid hX
    have HR := Lib.hid hR
    have Hbw := Lib.hid hbw
    have Hd := Lib.hid hd
    have Hn := Lib.hid hn
    have HlI := Lib.hid hlI
    clear hX hR hbw hd hn hlI
    by_cases hil : i < 64
    · have hnx := fun ty => run_next_at (P := Tryd.prog) wr (w.heap.size + 1 + 1) sr i ty hI (by omega)
      obtain ⟨c, hc⟩ : ∃ c, c = r.getD i 0 := ⟨_, rfl⟩
      have hgi : sr[i]'(by omega) = c := by
        have h1 := Hget.out i hil
        rw [getElem?_pos sr i (by omega)] at h1
        injection h1 with h1
        rw [h1, hc]
      have hdc : dw r i = dix c := by rw [hc, dw]
      have Hdc := Lib.hid hdc
      generalize hrn : ((Utf8.decode sr i).1 : Int) = rn at hnx
      generalize hwd : i + (Utf8.decode sr i).2 = wd at hnx
      have Hwd := Lib.hid hwd
      have hg := setIter_grown wr (w.heap.size + 1 + 1) sr wd
      have hX2 := HX.out.grown hg (by simp)
      have hR2 := HR.out.grown hg (by simp; omega)
      have hb2 := Hbw.out.trans (below_of_only hg (by omega) Hbw.out.size)
      have hI2 := setIter_at wr (w.heap.size + 1 + 1) sr wd HlI.out
      generalize hws : setIter wr (w.heap.size + 1 + 1) sr wd = ws at *
      have hib := idx_dix c
      have HX2 := Lib.hid hX2
      have HR2 := Lib.hid hR2
      have Hb2 := Lib.hid hb2
      have HI2 := Lib.hid hI2
      have Hc := Lib.hid hc
      have Hib := Lib.hid hib
      clear hX2 hR2 hb2 hI2 hc hrn hwd hws hg hI hdc hib
      by_cases hdl : dix c < 16
      · have hasc := dix_lt_ascii c hdl
        have hwd1 : wd = i + 1 := by
          rw [← Hwd.out, decode_ascii sr i (by omega) (by rw [hgi]; exact hasc)]
        have hib : Lib.indexByte dg c = (dix c : Int) := by rw [Hib.out, if_pos hdl]
        have Hib2 := Lib.hid hib
        have Hwd1 := Lib.hid hwd1
        have hz := pp_zat r i hil Hd.out
        obtain ⟨zn, hzn⟩ : ∃ zn, zn = zat r i := ⟨_, rfl⟩
        obtain ⟨d, hd⟩ : ∃ d, d = dix c := ⟨_, rfl⟩
        have hv := vat_nat r i hz.2 (by rw [Hdc.out]; exact hdl)
        rw [Hdc.out, ← hd, ← hzn] at hv
        have hcell := Blk.cell HX2.out (i / 2)
        rw [List.getElem?_toArray, bvs_get _ _ (by rw [pp_len]; omega), hz.1, ← hzn] at hcell
        have hz15 : zn ≤ 15 := by rw [hzn]; exact hz.2
        have hd16 : d < 16 := by rw [hd]; exact hdl
        have hfz := Blk.frozen HX2.out (i / 2)
        obtain ⟨va, hva⟩ : ∃ va, va = vat r i := ⟨_, rfl⟩
        rw [← hva] at hv
        have Hva := Lib.hid hva
        have Hdd := Lib.hid hd
        have Hzn := Lib.hid hzn
        clear hib hwd1 hz hzn hd hva hdl
        go_wp2_with (go_at_call 45; refine (idx_calls c _).mono ?_; rintro e w5 ⟨rfl, rfl⟩; rw [Hib2.out, ← Hdd.out])
        go_roundg (64 - (i + 1))
        case rel =>
          refine ⟨i + 1, by omega, rfl, ?_, ?_, ?_, HR2.out.far (by simp) _, Hb2.out.setCell (by simp) _⟩
          · intro k hk
            by_cases hki : k = i
            · rw [hki, Hdc.out, ← Hdd.out]
              exact hd16
            · exact Hd.out k (by omega)
          · rw [heap_setCell_other _ _ _ _ (by simp), HI2.out, Hwd1.out]
          · have := Blk.set_ HX2.out (i / 2) (.int .u8 (va.toNat : Int))
            rw [toArray_set] at this
            have e : (bvs (pp r i)).set (i / 2) (.int .u8 (va.toNat : Int)) = bvs (pp r (i + 1)) := by
              rw [← pp_set r i hil, ← Hva.out]
              simp [bvs, List.map_set, bv]
            rw [e] at this
            exact this
        case measure => have := Hn.out; omega
      · have hib : Lib.indexByte dg c = -1 := by rw [Hib.out, if_neg hdl]
        have Hib2 := Lib.hid hib
        clear hib
        have ht : (-1 : Int) < 0 := by omega
        go_wp2_with (first
          | (go_at_call 45; refine (idx_calls c _).mono ?_; rintro e w5 ⟨rfl, rfl⟩; rw [Hib2.out])
          | (refine wpList_store_blk rfl 26 (.tmp 2) (.tmp 22) rfl w.heap.size 0 26 [] (bvs (List.replicate 32 0)) [] (bvs (List.replicate 32 0)) rfl rfl (by simpa using HR2.out) rfl rfl (by kernel_rfl) (bvs_one _) ?_; intro w9 hR9 hg9))
        refine bodyPost_ret (v := .tuple #[.agg (bvs (List.replicate 32 0)).toArray, .int .i64 4]) (results_row_tmp (p := 2) (u := 3) (ty := 26) (by kernel_rfl) _ w9 w.heap.size 26 (bvs (List.replicate 32 0)).toArray _ rfl (by simp only [List.nil_append, List.append_nil] at hR9; exact hR9) Tryd.underlying26 rfl (by kernel_rfl)) rfl ⟨?_, ?_⟩
        · rw [parse_bad r (dw_bad (by rw [Hdc.out]; exact hdl) hil)]
          rfl
        · exact Hb2.out.trans (below_of_only hg9 (Nat.le_refl _) Hb2.out.size)
    · have hi64 : i = 64 := by omega
      have hgood : good r := ⟨H64.out, fun k hk => Hd.out k (by omega)⟩
      have hnx := fun ty => run_next_stop (P := Tryd.prog) wr (w.heap.size + 1 + 1) sr i ty hI (by omega)
      obtain ⟨H, hH⟩ : ∃ H, H = pp r i := ⟨_, rfl⟩
      have hHl : H.length = 32 := by rw [hH]; exact pp_len _ _
      have hX := HX.out
      rw [← hH] at hX
      have HX2 := Lib.hid hX
      have HH := Lib.hid hH
      have HHl := Lib.hid hHl
      have Hi64 := Lib.hid hi64
      have Hgood := Lib.hid hgood
      clear hX hH hHl hi64 hI hgood
      go_wp2_with (first
        | (refine wpList_load_blk rfl 26 (.tmp 4) rfl (w.heap.size + 1) 0 26 [] (bvs H) [] rfl (by simpa using HX2.out) rfl _ Tryd.underlying26 rfl (by rw [bvs_length, HHl.out]; kernel_rfl) ?_)
        | (refine wpList_store_blk rfl 26 (.tmp 2) (.tmp 34) rfl w.heap.size 0 26 [] (bvs (List.replicate 32 0)) [] (bvs H) rfl rfl (by simpa using HR.out) rfl (by rw [bvs_length, bvs_length, HHl.out]; rfl) (by rw [bvs_length, HHl.out]; kernel_rfl) (bvs_one _) ?_; intro w9 hR9 hg9))
      refine bodyPost_ret (v := .tuple #[.agg (bvs H).toArray, .int .i64 0]) (results_row_tmp (p := 2) (u := 3) (ty := 26) (by kernel_rfl) _ w9 w.heap.size 26 (bvs H).toArray _ rfl (by simp only [List.nil_append, List.append_nil] at hR9; exact hR9) Tryd.underlying26 rfl (by rw [List.size_toArray, bvs_length, HHl.out]; kernel_rfl)) rfl ⟨?_, ?_⟩
      · rw [parse_good r Hgood.out, HH.out, Hi64.out]
        rfl
      · exact Hbw.out.trans (below_of_only hg9 (Nat.le_refl _) Hbw.out.size)
theorem parse_calls (r : List UInt8) (w : World) : Calls Tryd.prog 21 #[.string (S r)] w
    fun e w' => e = .returned (.tuple #[.agg (bvs (parse r).1).toArray, .int .i64 ((parse r).2 : Int)]) ∧ Below w.heap.size w w' := by
  by_cases h64 : r.length = 64
  · exact parse_long r h64 w
  · exact parse_short r h64 w
end Hx
end Go.Proofs.YtlkcibhdnicpkaaDoor

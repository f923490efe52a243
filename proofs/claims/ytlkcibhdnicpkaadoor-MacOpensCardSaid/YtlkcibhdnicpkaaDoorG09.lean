/- A sum's digits are read, by the program: the walk. -/
import Derived.Test.YtlkcibhdnicpkaaDoorG01
import Derived.Test.YtlkcibhdnicpkaaDoorG02
import Derived.Test.YtlkcibhdnicpkaaDoorG03
import Derived.Test.YtlkcibhdnicpkaaDoorG04
import Derived.Test.YtlkcibhdnicpkaaDoorG05
import Derived.Test.YtlkcibhdnicpkaaDoorG06
import Derived.Test.YtlkcibhdnicpkaaDoorG07
import Derived.Test.YtlkcibhdnicpkaaDoorG08
import Derived.Stop.BytesEq
import Derived.ProofKit
import Derived.OpenShut
import Derived.ShutString
import Derived.ChangeOld
import Derived.SizedLaws
import Derived.ChangeSlices
import Derived.Test.YtlkcibhdnicpkaaDoorRows
import Derived.LaidMore
import Derived.Stop.Joined
import Derived.Lib.LaidTab
namespace Go.Proofs.YtlkcibhdnicpkaaDoor
namespace Hx
open Go.RowKit Ba Sm
set_option linter.unusedVariables false
theorem rep32 : #[Value.int .u8 0, .int .u8 0, .int .u8 0, .int .u8 0, .int .u8 0, .int .u8 0, .int .u8 0, .int .u8 0, .int .u8 0, .int .u8 0, .int .u8 0, .int .u8 0, .int .u8 0, .int .u8 0, .int .u8 0, .int .u8 0, .int .u8 0, .int .u8 0, .int .u8 0, .int .u8 0, .int .u8 0, .int .u8 0, .int .u8 0, .int .u8 0, .int .u8 0, .int .u8 0, .int .u8 0, .int .u8 0, .int .u8 0, .int .u8 0, .int .u8 0, .int .u8 0] = (bvs (List.replicate 32 0)).toArray := rfl
theorem S_get (r : List UInt8) (i : Nat) (h : i < r.length) : (S r)[i]? = some (r.getD i 0) := by
  have h1 : i < (S r).size := by rw [S_size]; exact h
  rw [getElem?_pos (S r) i h1]
  congr 1
  show (S r).data[i] = _
  simp [S, List.getD, h]
theorem two_start {w : World} {C1 C2 : Array Value} {t1 t2 : TypeId} : Below w.heap.size w ((w.alloc (.cells C1 t1)).alloc (.cells C2 t2)) ∧ Blk ((w.alloc (.cells C1 t1)).alloc (.cells C2 t2)) w.heap.size t1 C1 ∧ Blk ((w.alloc (.cells C1 t1)).alloc (.cells C2 t2)) (w.heap.size + 1) t2 C2 :=
  ⟨((Below.refl _ _).alloc (Nat.le_refl _) _).alloc (by simp) _, Blk.alloc (heap_alloc_new _ _) _, heap_alloc2_new _ _ _⟩

theorem results_row_tmp {P : Program} {fn : Func} {p u : Tmp} {ty : TypeId} (h : fn.results = #[.cell p ty, .tmp u]) (tmps : Array Value) (w : World) (g : Nat) (t : TypeId) (cs : Array Value) (d : TypeDesc)
    (hp : tmps.getD p undef = .pointer (some ⟨g, 0, none⟩)) (hg : w.heap[g]? = some (.cells cs t (0, 0)))
    (hu : P.underlying ty = some d) (hd : (match d with | .struct _ | .array _ _ => true | _ => false) = true) (hi : (P.info? ty).map (·.size) = some cs.size) :
    (results fn tmps).run P w = .ok (.tuple #[.agg cs, tmps.getD u undef]) w := by
  rw [results_cell_tmp h, hp]
  simp [asAddr, run_loadVar_row w g t ty cs (0, 0) d hg hu hd hi]
theorem dw_bad {r : List UInt8} {i : Nat} (h : ¬ dw r i < 16) (hi : i < 64) : ¬ good r := fun hg => h (hg.2 i hi)
set_option maxRecDepth 100000 in
set_option maxHeartbeats 2000000 in
theorem parse_short (r : List UInt8) (h64 : ¬ r.length = 64) (w : World) : Calls Tryd.prog 21 #[.string (S r)] w
    fun e w' => e = .returned (.tuple #[.agg (bvs (parse r).1).toArray, .int .i64 ((parse r).2 : Int)]) ∧ Below w.heap.size w w' := by
  have hsz : (((S r).size : Int) == 64) = false := by rw [S_size]; simpa using (by omega : ¬ (r.length : Int) = 64)
  have hsz2 : (((S r).size : Int) != 64) = true := by rw [bne, hsz]; rfl
  have hbad : ¬ good r := fun h => h64 h.1
  have Hbad := Lib.hid hbad
  clear hbad h64
  generalize S r = sr at *
  go_enter Tryd.func21, Tryd.ntmps21
  go_wp2_with (first
    | (refine wpList_load_blk rfl 26 (.tmp 4) rfl (w.heap.size + 1) 0 26 [] (bvs (List.replicate 32 0)) [] rfl (by simpa using (by rw [rep32]; exact heap_alloc2_new _ _ _)) rfl _ Tryd.underlying26 rfl (by kernel_rfl) ?_)
    | (refine wpList_store_blk rfl 26 (.tmp 2) (.tmp 10) rfl w.heap.size 0 26 [] (bvs (List.replicate 32 0)) [] (bvs (List.replicate 32 0)) rfl rfl (by rw [rep32]; exact Blk.alloc (heap_alloc_new _ _) _) rfl rfl (by kernel_rfl) (bvs_one _) ?_; intro w9 hR9 hg9))
  have hb : Below w.heap.size w w9 := only_after (((Below.refl _ _).alloc (Nat.le_refl _) _).alloc (by simp) _) hg9 (Nat.le_refl _)
  refine bodyPost_ret (v := .tuple #[.agg (bvs (List.replicate 32 0)).toArray, .int .i64 4]) (results_row_tmp (p := 2) (u := 3) (ty := 26) (by kernel_rfl) _ w9 w.heap.size 26 (bvs (List.replicate 32 0)).toArray _ rfl (by simp only [List.nil_append, List.append_nil] at hR9; exact hR9) Tryd.underlying26 rfl (by kernel_rfl)) rfl ⟨?_, hb⟩
  rw [parse_bad r Hbad.out]
  rfl
set_option maxRecDepth 100000 in
set_option maxHeartbeats 2000000 in
theorem parse_long (r : List UInt8) (h64 : r.length = 64) (w : World) : Calls Tryd.prog 21 #[.string (S r)] w
    fun e w' => e = .returned (.tuple #[.agg (bvs (parse r).1).toArray, .int .i64 ((parse r).2 : Int)]) ∧ Below w.heap.size w w' := by
  have hsz : (S r).size = 64 := by rw [S_size, h64]
  have hget : ∀ i, i < 64 → (S r)[i]? = some (r.getD i 0) := fun i hi => S_get r i (by omega)
  generalize S r = sr at *
  have Hget := Lib.hid hget
  have H64 := Lib.hid h64
  have Hsz := Lib.hid hsz
  clear hget h64
  go_enter Tryd.func21, Tryd.ntmps21
  go_wp2
  obtain ⟨hb0, hR0, hX0⟩ := two_start (w := w) (C1 := (bvs (List.replicate 32 0)).toArray) (C2 := (bvs (List.replicate 32 0)).toArray) (t1 := 26) (t2 := 26)
  have hb1 := hb0.alloc hb0.size (.stringIter sr 0)
  have hR1 := hR0.alloc (.stringIter sr 0)
  have hX1 := hX0.alloc (.stringIter sr 0)
  have hI1 := heap_alloc_new ((w.alloc (.cells (bvs (List.replicate 32 0)).toArray 26)).alloc (.cells (bvs (List.replicate 32 0)).toArray 26)) (.stringIter sr 0)
  rw [show ((w.alloc (.cells (bvs (List.replicate 32 0)).toArray 26)).alloc (.cells (bvs (List.replicate 32 0)).toArray 26)).heap.size = w.heap.size + 1 + 1 by simp] at hI1
  have Hb1 := Lib.hid hb1
  have HR1 := Lib.hid hR1
  have HX1 := Lib.hid hX1
  have HI1 := Lib.hid hI1
  clear hb0 hR0 hX0 hb1 hR1 hX1 hI1
  go_loopg [5, 6] 64 (fun n _ _ wr => ∃ i : Nat, i ≤ 64 ∧ n = 64 - i ∧ (∀ k, k < i → dw r k < 16) ∧ wr.heap[w.heap.size + 1 + 1]? = some (.stringIter sr i) ∧ Blk wr (w.heap.size + 1) 26 (bvs (pp r i)).toArray ∧ Blk wr w.heap.size 26 (bvs (List.replicate 32 0)).toArray ∧ Below w.heap.size w wr)
  case atStart => exact ⟨0, Nat.zero_le _, rfl, fun k hk => absurd hk (by omega), HI1.out, by rw [pp_0]; exact HX1.out, HR1.out, Hb1.out⟩
  case round =>
    obtain ⟨i, hi, hn, hd, hI, hX, hR, hbw⟩ := hrel
    have hlI : w.heap.size + 1 + 1 < wr.heap.size := by
      rcases Nat.lt_or_ge (w.heap.size + 1 + 1) wr.heap.size with h | h
      · exact h
      · rw [Array.getElem?_eq_none h] at hI; cases hI
    have HI := Lib.hid hI
    have HX := Lib.hid hX
    have HR := Lib.hid hR
    have Hbw := Lib.hid hbw
    have Hd := Lib.hid hd
    have Hn := Lib.hid hn
    have HlI := Lib.hid hlI
    clear hX hR hbw hd hn hlI
    by_cases hil : i < 64
    · have hnx := fun ty => run_next_at (P := Tryd.prog) wr (w.heap.size + 1 + 1) sr i ty hI (by omega)
      obtain ⟨c, hc⟩ : ∃ c, c = r.getD i 0 := ⟨_, rfl⟩
      have hgi : sr[i]'(by omega) = c := by
        have h1 := Hget.out i hil
        rw [getElem?_pos sr i (by omega)] at h1
        injection h1 with h1
        rw [h1, hc]
      have hdc : dw r i = dix c := by rw [hc, dw]
      have Hdc := Lib.hid hdc
      generalize hrn : ((Utf8.decode sr i).1 : Int) = rn at hnx
      generalize hwd : i + (Utf8.decode sr i).2 = wd at hnx
      have Hwd := Lib.hid hwd
      have hg := setIter_grown wr (w.heap.size + 1 + 1) sr wd
      have hX2 := HX.out.grown hg (by simp)
      have hR2 := HR.out.grown hg (by simp; omega)
      have hb2 := Hbw.out.trans (below_of_only hg (by omega) Hbw.out.size)
      have hI2 := setIter_at wr (w.heap.size + 1 + 1) sr wd HlI.out
      generalize hws : setIter wr (w.heap.size + 1 + 1) sr wd = ws at *
      have hib := idx_dix c
      have HX2 := Lib.hid hX2
      have HR2 := Lib.hid hR2
      have Hb2 := Lib.hid hb2
      have HI2 := Lib.hid hI2
      have Hc := Lib.hid hc
      have Hib := Lib.hid hib
      clear hX2 hR2 hb2 hI2 hc hrn hwd hws hg hI hdc hib
      by_cases hdl : dix c < 16
      · have hasc := dix_lt_ascii c hdl
        have hwd1 : wd = i + 1 := by
          rw [← Hwd.out, decode_ascii sr i (by omega) (by rw [hgi]; exact hasc)]
        have hib : Lib.indexByte dg c = (dix c : Int) := by rw [Hib.out, if_pos hdl]
        have Hib2 := Lib.hid hib
        have Hwd1 := Lib.hid hwd1
        have hz := pp_zat r i hil Hd.out
        obtain ⟨zn, hzn⟩ : ∃ zn, zn = zat r i := ⟨_, rfl⟩
        obtain ⟨d, hd⟩ : ∃ d, d = dix c := ⟨_, rfl⟩
        have hv := vat_nat r i hz.2 (by rw [Hdc.out]; exact hdl)
        rw [Hdc.out, ← hd, ← hzn] at hv
        have hcell := Blk.cell HX2.out (i / 2)
        rw [List.getElem?_toArray, bvs_get _ _ (by rw [pp_len]; omega), hz.1, ← hzn] at hcell
        have hz15 : zn ≤ 15 := by rw [hzn]; exact hz.2
        have hd16 : d < 16 := by rw [hd]; exact hdl
        have hfz := Blk.frozen HX2.out (i / 2)
        obtain ⟨va, hva⟩ : ∃ va, va = vat r i := ⟨_, rfl⟩
        rw [← hva] at hv
        have Hva := Lib.hid hva
        have Hdd := Lib.hid hd
        have Hzn := Lib.hid hzn
        clear hib hwd1 hz hzn hd hva hdl
        go_wp2_with (go_at_call 45; refine (idx_calls c _).mono ?_; rintro e w5 ⟨rfl, rfl⟩; rw [Hib2.out, ← Hdd.out])
        go_roundg (64 - (i + 1))
        case rel =>
          refine ⟨i + 1, by omega, rfl, ?_, ?_, ?_, HR2.out.far (by simp) _, Hb2.out.setCell (by simp) _⟩
          · intro k hk
            by_cases hki : k = i
            · rw [hki, Hdc.out, ← Hdd.out]
              exact hd16
            · exact Hd.out k (by omega)
          · rw [heap_setCell_other _ _ _ _ (by simp), HI2.out, Hwd1.out]
          · have := Blk.set_ HX2.out (i / 2) (.int .u8 (va.toNat : Int))
            rw [toArray_set] at this
            have e : (bvs (pp r i)).set (i / 2) (.int .u8 (va.toNat : Int)) = bvs (pp r (i + 1)) := by
              rw [← pp_set r i hil, ← Hva.out]
              simp [bvs, List.map_set, bv]
            rw [e] at this
            exact this
        case measure => have := Hn.out; omega
      · have hib : Lib.indexByte dg c = -1 := by rw [Hib.out, if_neg hdl]
        have Hib2 := Lib.hid hib
        clear hib
        have ht : (-1 : Int) < 0 := by omega
        go_wp2_with (first
          | (go_at_call 45; refine (idx_calls c _).mono ?_; rintro e w5 ⟨rfl, rfl⟩; rw [Hib2.out])
          | (refine wpList_store_blk rfl 26 (.tmp 2) (.tmp 22) rfl w.heap.size 0 26 [] (bvs (List.replicate 32 0)) [] (bvs (List.replicate 32 0)) rfl rfl (by simpa using HR2.out) rfl rfl (by kernel_rfl) (bvs_one _) ?_; intro w9 hR9 hg9))
        refine bodyPost_ret (v := .tuple #[.agg (bvs (List.replicate 32 0)).toArray, .int .i64 4]) (results_row_tmp (p := 2) (u := 3) (ty := 26) (by kernel_rfl) _ w9 w.heap.size 26 (bvs (List.replicate 32 0)).toArray _ rfl (by simp only [List.nil_append, List.append_nil] at hR9; exact hR9) Tryd.underlying26 rfl (by kernel_rfl)) rfl ⟨?_, ?_⟩
        · rw [parse_bad r (dw_bad (by rw [Hdc.out]; exact hdl) hil)]
          rfl
        · exact Hb2.out.trans (below_of_only hg9 (Nat.le_refl _) Hb2.out.size)
    · have hi64 : i = 64 := by omega
      have hgood : good r := ⟨H64.out, fun k hk => Hd.out k (by omega)⟩
      have hnx := fun ty => run_next_stop (P := Tryd.prog) wr (w.heap.size + 1 + 1) sr i ty hI (by omega)
      obtain ⟨H, hH⟩ : ∃ H, H = pp r i := ⟨_, rfl⟩
      have hHl : H.length = 32 := by rw [hH]; exact pp_len _ _
      have hX := HX.out
      rw [← hH] at hX
      have HX2 := Lib.hid hX
      have HH := Lib.hid hH
      have HHl := Lib.hid hHl
      have Hi64 := Lib.hid hi64
      have Hgood := Lib.hid hgood
      clear hX hH hHl hi64 hI hgood
      go_wp2_with (first
        | (refine wpList_load_blk rfl 26 (.tmp 4) rfl (w.heap.size + 1) 0 26 [] (bvs H) [] rfl (by simpa using HX2.out) rfl _ Tryd.underlying26 rfl (by rw [bvs_length, HHl.out]; kernel_rfl) ?_)
        | (refine wpList_store_blk rfl 26 (.tmp 2) (.tmp 34) rfl w.heap.size 0 26 [] (bvs (List.replicate 32 0)) [] (bvs H) rfl rfl (by simpa using HR.out) rfl (by rw [bvs_length, bvs_length, HHl.out]; rfl) (by rw [bvs_length, HHl.out]; kernel_rfl) (bvs_one _) ?_; intro w9 hR9 hg9))
      refine bodyPost_ret (v := .tuple #[.agg (bvs H).toArray, .int .i64 0]) (results_row_tmp (p := 2) (u := 3) (ty := 26) (by kernel_rfl) _ w9 w.heap.size 26 (bvs H).toArray _ rfl (by simp only [List.nil_append, List.append_nil] at hR9; exact hR9) Tryd.underlying26 rfl (by rw [List.size_toArray, bvs_length, HHl.out]; kernel_rfl)) rfl ⟨?_, ?_⟩
      · rw [parse_good r Hgood.out, HH.out, Hi64.out]
        rfl
      · exact Hbw.out.trans (below_of_only hg9 (Nat.le_refl _) Hbw.out.size)
theorem parse_calls (r : List UInt8) (w : World) : Calls Tryd.prog 21 #[.string (S r)] w
    fun e w' => e = .returned (.tuple #[.agg (bvs (parse r).1).toArray, .int .i64 ((parse r).2 : Int)]) ∧ Below w.heap.size w w' := by
  by_cases h64 : r.length = 64
  · exact parse_long r h64 w
  · exact parse_short r h64 w
end Hx
end Go.Proofs.YtlkcibhdnicpkaaDoor
/- The closed case: the sum that everybody knows. -/
namespace Go.Proofs.YtlkcibhdnicpkaaDoor
namespace Sk
open Go.RowKit Ba Sm Hx
set_option linter.unusedVariables false
def abcText : List UInt8 := [98, 97, 55, 56, 49, 54, 98, 102, 56, 102, 48, 49, 99, 102, 101, 97, 52, 49, 52, 49, 52, 48, 100, 101, 53, 100, 97, 101, 50, 50, 50, 51, 98, 48, 48, 51, 54, 49, 97, 51, 57, 54, 49, 55, 55, 97, 57, 99, 98, 52, 49, 48, 102, 102, 54, 49, 102, 50, 48, 48, 49, 53, 97, 100]
set_option maxRecDepth 100000 in
theorem abc_parse : parse abcText = (sha [97, 98, 99], 0) := by rw [Sm.abc]; decide +kernel
theorem run_eqB (a b : List UInt8) (ha : a.length = 32) (hb : b.length = 32) (w : World) : (binOp .eql 26 (.agg (bvs a).toArray) (.agg (bvs b).toArray)).run Tryd.prog w = .ok (.bool (a == b)) w :=
  run_eql_bytes w 26 5 32 Tryd.underlying26 Tryd.underlying5 (fun w => by kernel_rfl) a b ha hb
theorem run_neB (a b : List UInt8) (ha : a.length = 32) (hb : b.length = 32) (w : World) : (binOp .neq 26 (.agg (bvs a).toArray) (.agg (bvs b).toArray)).run Tryd.prog w = .ok (.bool (!(a == b))) w := by
  rw [run_neq_struct]
  have := run_eqB a b ha hb w
  rw [run_eql_struct] at this
  cases h : (Op.equalIn 10000 26 (.agg (bvs a).toArray) (.agg (bvs b).toArray)).run Tryd.prog w with
  | ok r w1 =>
    rw [h] at this
    simp only [Result.andThen_ok, Result.ok.injEq, Value.bool.injEq] at this
    obtain ⟨h1, h2⟩ := this
    simp only [Result.andThen_ok]
    rw [h1, h2]
  | halt x w1 =>
    rw [h] at this
    simp [Result.andThen] at this
theorem range_below {w w' : World} {B g o : Nat} {cs : List Value} (h : w.rangeAt g o cs) (hb : Below B w w') (hg : g < B) : w'.rangeAt g o cs := fun j v hv => (hb.cell (p := ⟨g, o + j, none⟩) hg).trans (h j v hv)
set_option maxRecDepth 100000 in
set_option maxHeartbeats 4000000 in
theorem awake_calls (w : World) (htab : Tab w) : Calls Tryd.prog 13 #[] w fun e w' => e = .returned (.bool true) ∧ Below w.heap.size w w' := by
  have hpc := parse_calls abcText w
  rw [abc_parse] at hpc
  have hsl := hash_len [97, 98, 99]
  have hne : (sha [97, 98, 99] == List.replicate 32 0) = false := by rw [Sm.abc]; decide +kernel
  have hoc1 := fun W h => abc_1 W h
  have hoc2 := fun W h => abc_2 W h
  have hoc3 := fun W h => abc_3 W h
  have hoc4 := fun W h => abc_4 W h
  have hoc5 := fun W h => abc_5 W h
  have hoc6 := fun W h => abc_6 W h
  generalize hH : sha [97, 98, 99] = H at *
  have heq : ∀ w', (binOp .eql 26 (.agg (bvs H).toArray) (.agg (bvs H).toArray)).run Tryd.prog w' = .ok (.bool true) w' := fun w' => by rw [run_eqB H H hsl hsl w', beq_self_eq_true]
  have hneq : ∀ w', (binOp .neq 26 (.agg (bvs H).toArray) (.agg (bvs (List.replicate 32 0)).toArray)).run Tryd.prog w' = .ok (.bool true) w' := fun w' => by rw [run_neB H _ hsl rfl w', hne]; rfl
  rw [← rep32] at hneq
  have Hpc := Lib.hid hpc
  have Hoc1 := Lib.hid hoc1
  have Hoc2 := Lib.hid hoc2
  have Hoc3 := Lib.hid hoc3
  have Hoc4 := Lib.hid hoc4
  have Hoc5 := Lib.hid hoc5
  have Hoc6 := Lib.hid hoc6
  have Hsl := Lib.hid hsl
  have Htab := Lib.hid htab
  clear hpc hoc1 hoc2 hoc3 hoc4 hoc5 hoc6 hsl htab hH hne
  go_enter Tryd.func13, Tryd.ntmps13
  go_wp2_with (first
    | (go_at_call 21; refine Hpc.out.mono ?_; rintro e w1 ⟨rfl, hb1⟩; have Hb1 := Lib.hid hb1; clear hb1)
    | (refine wpList_store_blk rfl 26 (.tmp 1) (.tmp 5) rfl w1.heap.size 0 26 [] (bvs (List.replicate 32 0)) [] (bvs H) rfl rfl (by rw [rep32]; exact heap_alloc_new _ _) rfl (by rw [bvs_length, bvs_length, Hsl.out]; rfl) (by rw [bvs_length, Hsl.out]; kernel_rfl) (bvs_one _) ?_; intro w2 hX2 hg2))
  have hX : w2.rangeAt w1.heap.size 0 (bvs H) := Blk.range [] (bvs H) [] hX2
  have hXB : Blk w2 w1.heap.size 26 (bvs H).toArray := by simpa using hX2
  have hbw : Below w.heap.size w w2 := (Hb1.out.alloc Hb1.out.size _).trans (below_of_only hg2 Hb1.out.size (by have := Hb1.out.size; simp; omega))
  have htab2 : Tab w2 := Htab.out.below hbw
  have HXB := Lib.hid hXB
  have Hbw := Lib.hid hbw
  have Htab2 := Lib.hid htab2
  have hu := Tryd.underlying26
  have hi : (Tryd.prog.info? 26).map (·.size) = some (bvs H).length := by rw [bvs_length, Hsl.out]; kernel_rfl
  have hone := bvs_one H
  clear hX2 hXB hg2 hbw htab2 Hpc
  generalize w1.heap.size = gx at *
  have HX := Lib.hid hX
  have hgx := HXB.out.lt
  have Hgx := Lib.hid hgx
  clear hgx
  have hcv := fun (g n c : Nat) (w' : World) => Li.conv_run (P := Tryd.prog) 22 5 Tryd.underlying22 Tryd.underlying5 g n c w'
  have hms := Li.mkB_size
  go_wp2_with fail
  refine CanT.region (fun w' => w'.rangeAt gx 0 (bvs H)) 1000 (.op 6 1 (.fork (.op 0 0 (.fork (.op 1 0 (.op 2 0 (.op 3 0 (.op 4 0 (.op 5 0 (.op 7 2 (.op 8 2 (.op 9 2 (.op 10 2 (.op 11 2 (.op 12 2 (.op 13 1 (.op 14 2 (.op 15 2 (.op 16 2 (.op 17 2 (.op 18 2 (.op 19 2 (.nil))))))))))))))))))) (.op 2 0 (.fork (.op 1 0 (.op 3 0 (.op 4 0 (.op 5 0 (.op 7 2 (.op 8 2 (.op 9 2 (.op 10 2 (.op 11 2 (.op 12 2 (.op 13 1 (.op 14 2 (.op 15 2 (.op 16 2 (.op 17 2 (.op 18 2 (.op 19 2 (.nil)))))))))))))))))) (.op 3 0 (.op 1 0 (.op 4 0 (.op 5 0 (.op 7 2 (.op 8 2 (.op 9 2 (.op 10 2 (.op 11 2 (.op 12 2 (.op 13 1 (.op 14 2 (.op 15 2 (.op 16 2 (.op 17 2 (.op 18 2 (.op 19 2 (.nil)))))))))))))))))))))) (.op 2 0 (.fork (.op 0 0 (.fork (.op 1 0 (.op 3 0 (.op 4 0 (.op 5 0 (.op 7 2 (.op 8 2 (.op 9 2 (.op 10 2 (.op 11 2 (.op 12 2 (.op 13 1 (.op 14 2 (.op 15 2 (.op 16 2 (.op 17 2 (.op 18 2 (.op 19 2 (.nil)))))))))))))))))) (.op 3 0 (.op 1 0 (.op 4 0 (.op 5 0 (.op 7 2 (.op 8 2 (.op 9 2 (.op 10 2 (.op 11 2 (.op 12 2 (.op 13 1 (.op 14 2 (.op 15 2 (.op 16 2 (.op 17 2 (.op 18 2 (.op 19 2 (.nil)))))))))))))))))))) (.op 3 0 (.op 0 0 (.op 1 0 (.op 4 0 (.op 5 0 (.op 7 2 (.op 8 2 (.op 9 2 (.op 10 2 (.op 11 2 (.op 12 2 (.op 13 1 (.op 14 2 (.op 15 2 (.op 16 2 (.op 17 2 (.op 18 2 (.op 19 2 (.nil))))))))))))))))))))))) (by kernel_rfl) (by kernel_rfl) HX.out ?_
  have HXd : Hid (w2.drew.rangeAt gx 0 (bvs H)) := HX
  have HtabW : Hid (Tab w2.drew) := Lib.hid ⟨Htab2.out.1, Htab2.out.2⟩
  have HgxW : Hid (gx < w2.drew.heap.size) := Hgx
  have HbW : Hid (Below w.heap.size w w2.drew) := Lib.hid Hbw.out.drew
  clear HX Htab2 Hgx Hbw HXB
  generalize w2.drew = W at *
  refine CanT.heldR rfl ?_ 26 (.tmp 1) rfl gx 0 (bvs H) rfl (fun w' h => h) _ Tryd.underlying26 rfl (by rw [bvs_length, Hsl.out]; kernel_rfl) (fun K hK => ?_); (focus (go_simp; done)); go_simp; refine hK _ ?_; clear hK K
  repeat (any_goals (first | (refine CanT.both ?_ ?_) | (refine CanT.heldR rfl ?_ 26 (.tmp 1) rfl gx 0 (bvs H) rfl (fun w' h => h) _ Tryd.underlying26 rfl (by rw [bvs_length, Hsl.out]; kernel_rfl) (fun K hK => ?_); (focus (go_simp; done)); go_simp; refine hK _ ?_; clear hK K) | (refine CanT.skip rfl ?_ (fun K hK => ?_); (focus (go_simp; done)); go_simp; refine hK _ ?_; clear hK K) | (refine CanT.pur rfl ?_ ?_; (focus (go_simp; done)); refine ⟨?_, ?_, ?_⟩; rotate_left; (focus (intro w'; go_simp; rfl)); (focus (intro K hK; go_simp; refine hK _ ?_; clear hK K))) | (refine CanT.held rfl ?_ ?_; (focus (go_simp; done)); refine ⟨?_, ?_, ?_⟩; rotate_left; (focus (intro w' hS'; (try dsimp only at hS'); go_simp; rfl)); (focus (intro K hK; go_simp; refine hK _ ?_; clear hK K))) | (refine CanT.last rfl (fun K hK => ?_); go_simp; refine hK.out _ _ ?_; clear hK K) | (refine CanT.imp rfl (fun K hK => ?_); go_simp; (first | (go_at_call 14; (first | (with_reducible refine Calls.mono (Hoc1.out W HtabW.out) ?_) | (with_reducible refine Calls.mono (Hoc2.out W HtabW.out) ?_) | (with_reducible refine Calls.mono (Hoc3.out W HtabW.out) ?_) | (with_reducible refine Calls.mono (Hoc4.out W HtabW.out) ?_) | (with_reducible refine Calls.mono (Hoc5.out W HtabW.out) ?_) | (with_reducible refine Calls.mono (Hoc6.out W HtabW.out) ?_)); rintro e w5 ⟨rfl, hb5⟩; have hX5 := range_below HXd.out hb5 HgxW.out) | skip); (try go_simp); refine hK.out _ _ ((by first | exact hX5 | exact range_below HXd.out (by repeat (first | with_reducible exact Below.refl _ _ | (with_reducible refine Below.alloc ?_ (by first | (simp [Li.mkB_size]; done) | (simp [Li.mkB_size]; omega) | omega) _) | (with_reducible refine Li.mkB_below ?_ (by first | (simp [Li.mkB_size]; done) | (simp [Li.mkB_size]; omega) | omega) (by first | (simp [Li.mkB_size]; done) | (simp [Li.mkB_size]; omega) | omega)))) HgxW.out)) ?_; clear hK K)))
  all_goals
    refine CanT.done ?_
    go_wp2
    go_ret
    exact ⟨rfl, HbW.out.trans (hb5.mono HbW.out.size)⟩
end Sk
end Go.Proofs.YtlkcibhdnicpkaaDoor
/- Any key and bytes, in any two parts, have the sum that the document says: the walk of the statement. -/
namespace Go.Proofs.YtlkcibhdnicpkaaDoor
namespace Mc
open Go.RowKit Ba Sm
set_option linter.unusedVariables false
set_option maxRecDepth 100000 in
set_option maxHeartbeats 4000000 in
theorem macOfs_calls (k b : List UInt8) (A B : Option Addr) (c d : Nat) (cut : Int) (hc0 : 0 ≤ cut) (hc1 : cut ≤ 65535) (hkc : k.length ≤ c) (hkm : c ≤ 9223372036854775807) (hbd : b.length ≤ d) (hbm : d ≤ 9223372036854775807) (w : World) (htab : Tab w) (hr : ReadB w w.heap.size A k) (hrb : ReadB w w.heap.size B b) :
    Calls Tryd.prog 8 #[.slice A k.length c, .slice B b.length d, .int .u16 cut] w fun e w' => e = .returned (.bool true) ∧ Below w.heap.size w w' := by
  have hw := awake_calls
  have Hw := Lib.hid hw
  have Hr := Lib.hid hr
  have Hb := Lib.hid hrb
  have Htab := Lib.hid htab
  clear hw hr htab hrb
  by_cases h1 : 200 < k.length
  · have g1 : decide (200 < (k.length : Int)) = true := by rw [decide_eq_true_eq]; omega
    go_enter Tryd.func8, Tryd.ntmps8
    go_wp2_with (go_at_call 27; refine (Hw.out _ Htab.out).mono ?_; rintro e w5 ⟨rfl, hb5⟩)
    go_ret
    exact ⟨rfl, hb5⟩
  by_cases h2 : 200 < b.length
  · have g1 : decide (200 < (b.length : Int)) = true := by rw [decide_eq_true_eq]; omega
    have g2 : decide (200 < (k.length : Int)) = false := by rw [decide_eq_false_iff_not]; omega
    go_enter Tryd.func8, Tryd.ntmps8
    go_wp2_with (go_at_call 27; refine (Hw.out _ Htab.out).mono ?_; rintro e w5 ⟨rfl, hb5⟩)
    go_ret
    exact ⟨rfl, hb5⟩
  have g1 : decide (200 < (b.length : Int)) = false := by rw [decide_eq_false_iff_not]; omega
  have g2 : decide (200 < (k.length : Int)) = false := by rw [decide_eq_false_iff_not]; omega
  obtain ⟨j, hj⟩ : ∃ j : Nat, cut % ((b.length : Int) + 1) = (j : Int) := ⟨(cut % ((b.length : Int) + 1)).toNat, by rw [Int.toNat_of_nonneg (Int.emod_nonneg _ (by omega))]⟩
  have hjl : j ≤ b.length := by have := Int.emod_lt_of_pos cut (show (0 : Int) < (b.length : Int) + 1 by omega); omega
  have hjd : j ≤ d := by omega
  have z1 : (0 : Int) ≤ (j : Int) := by omega
  have z2 : (j : Int) ≤ (b.length : Int) := by omega
  have z3 : (j : Int) ≤ (d : Int) := by omega
  have Hj := Lib.hid hj
  clear hj
  go_enter Tryd.func8, Tryd.ntmps8
  go_wp2_with fail
  rw [Hj.out]
  have HB := Lib.hid (Below.refl w.heap.size w).drew
  have Hr1 : Hid (ReadB w.drew w.drew.heap.size A k) := Hr
  have Hb1 : Hid (ReadB w.drew w.drew.heap.size B b) := Hb
  have Ht1 : Hid (Tab w.drew) := Lib.hid (tab_drew Htab.out)
  have hlo := hmac_len k b
  obtain ⟨H, hH⟩ : ∃ H, H = hmac k b := ⟨_, rfl⟩
  rw [← hH] at hlo
  have heq : ∀ w', (binOp .eql 26 (.agg (bvs H).toArray) (.agg (bvs H).toArray)).run Tryd.prog w' = .ok (.bool true) w' := fun w' => by rw [Sk.run_eqB H H hlo hlo w', beq_self_eq_true]
  have HH := Lib.hid hH
  clear hH hlo Hr Hb Htab
  refine CanB.region 1000 (.op 0 2 (.op 1 2 (.op 2 2 (.op 3 2 (.op 4 2 (.op 5 2 (.op 6 2 (.op 9 2 (.op 10 2 (.op 7 0 (.op 8 0 (.op 11 0 (.op 12 2 (.op 13 2 (.op 14 0 (.op 15 2 (.op 16 2 (.nil)))))))))))))))))) (by kernel_rfl) (by kernel_rfl) ?_
  generalize w.drew = W at *
  repeat (first | (refine CanT.skip rfl ?_ (fun K hK => ?_); (focus (go_simp; done)); go_simp; refine hK _ ?_; clear hK K) | (refine CanT.pur rfl ?_ ?_; (focus (go_simp; done)); refine ⟨?_, ?_, ?_⟩; rotate_left; (focus (intro w'; go_simp; rfl)); (focus (intro K hK; go_simp; refine hK _ ?_; clear hK K))))
  have hflat : [b.take j, b.drop j].flatten = b := by simp
  have Hflat := Lib.hid hflat
  have hcut : ReadB W W.heap.size (if d = j then B else B.map (·.add j)) (b.drop j) := Hb1.out.cut (k := j) hbd
  have hbb : ReadBB (W.alloc (.cells #[.slice B j d, .slice (if d = j then B else B.map (·.add j)) (b.length - j) (d - j)] 22)) (W.heap.size + 1) (some ⟨W.heap.size, 0, none⟩) [b.take j, b.drop j] :=
    ReadBB.lit2 W 22 B _ j d (b.length - j) (d - j) (b.take j) (b.drop j) W.heap.size W.heap.size rfl (Nat.le_refl _) (by rw [List.length_take]; omega) (by rw [List.length_drop]) (Hb1.out.take j) hcut (by rw [List.length_take]; omega) (by rw [List.length_drop]; omega) hbm (by omega)
  have Hbb := Lib.hid hbb
  have HF2 := Lib.hid ((Below.refl W.heap.size W).alloc (Nat.le_refl _) (.cells #[.slice B j d, .slice (if d = j then B else B.map (·.add j)) (b.length - j) (d - j)] 22))
  clear hbb hflat hcut
  refine CanT.imp rfl (fun J hJ => ?_)
  go_simp
  refine hJ.out _ _ HF2.out ?_
  clear hJ J
  refine CanT.imp rfl (fun J hJ => ?_)
  go_simp
  refine (mofN (ps := [b.take j, b.drop j]) rfl rfl ((Hr1.out.below HF2.out).more HF2.out.size) (by simpa using Hbb.out) (Ht1.out.below HF2.out) hkc hkm (by omega) (by simp) (by omega) (by intro p hp; simp at hp; rcases hp with rfl | rfl <;> simp <;> omega) (by rw [Hflat.out]; omega)).mono ?_
  rw [Hflat.out, ← HH.out]
  rintro e w3 ⟨rfl, hb3⟩
  have hF3 := bthen HF2.out hb3
  have HF3 := Lib.hid hF3
  clear hb3
  go_simp
  refine hJ.out _ _ hF3 ?_
  clear hJ J hF3
  refine CanT.imp rfl (fun J hJ => ?_)
  go_simp
  refine (rmof_calls k b A B c d w3 ((Hr1.out.below HF3.out).more HF3.out.size) ((Hb1.out.below HF3.out).more HF3.out.size) hkc (by omega) (by omega)).mono ?_
  rw [← HH.out]
  rintro e w4 ⟨rfl, hb4⟩
  have hF4 := bthen HF3.out hb4
  have HF4 := Lib.hid hF4
  clear hb4
  go_simp
  refine hJ.out _ _ hF4 ?_
  clear hJ J hF4
  repeat (first | (refine CanT.skip rfl ?_ (fun K hK => ?_); (focus (go_simp; done)); go_simp; refine hK _ ?_; clear hK K) | (refine CanT.pur rfl ?_ ?_; (focus (go_simp; done)); refine ⟨?_, ?_, ?_⟩; rotate_left; (focus (intro w'; go_simp; rfl)); (focus (intro K hK; go_simp; refine hK _ ?_; clear hK K))))
  refine CanT.imp rfl (fun J hJ => ?_)
  go_simp
  refine (Hw.out w4 (Ht1.out.below HF4.out)).mono ?_
  rintro e w5 ⟨rfl, hb5⟩
  have hF5 := bthen HF4.out hb5
  have HF5 := Lib.hid hF5
  clear hb5
  go_simp
  refine hJ.out _ _ hF5 ?_
  clear hJ J hF5
  repeat (first | (refine CanT.skip rfl ?_ (fun K hK => ?_); (focus (go_simp; done)); go_simp; refine hK _ ?_; clear hK K) | (refine CanT.pur rfl ?_ ?_; (focus (go_simp; done)); refine ⟨?_, ?_, ?_⟩; rotate_left; (focus (intro w'; go_simp; rfl)); (focus (intro K hK; go_simp; refine hK _ ?_; clear hK K))))
  refine CanT.done ?_
  go_wp2
  all_goals
    go_ret
    exact ⟨rfl, HB.out.trans (HF5.out.mono HB.out.size)⟩
end Mc
end Go.Proofs.YtlkcibhdnicpkaaDoor
/- How a row's arguments are opened: bytes that came in, read as a list of bytes; how many there may be. -/
namespace Go.Proofs.YtlkcibhdnicpkaaDoor
namespace Rk
open Go.ChangeShapes Go.WideShapes Go.ChangeAt Go.RowKit Ba
set_option linter.unusedVariables false

theorem bd_i64 {n : Int} (h : (Lit.int .i64 n).wf = true) : -9223372036854775808 ≤ n ∧ n ≤ 9223372036854775807 := by
  simpa [Lit.wf, IntKind.min, IntKind.max, IntKind.signed, IntKind.bits] using h
theorem bd_u8 {n : Int} (h : (Lit.int .u8 n).wf = true) : 0 ≤ n ∧ n ≤ 255 := by
  simpa [Lit.wf, IntKind.min, IntKind.max, IntKind.signed, IntKind.bits] using h
theorem bd_u16 {n : Int} (h : (Lit.int .u16 n).wf = true) : 0 ≤ n ∧ n ≤ 65535 := by
  simpa [Lit.wf, IntKind.min, IntKind.max, IntKind.signed, IntKind.bits] using h
theorem bd_u32 {n : Int} (h : (Lit.int .u32 n).wf = true) : 0 ≤ n ∧ n ≤ 4294967295 := by
  simpa [Lit.wf, IntKind.min, IntKind.max, IntKind.signed, IntKind.bits] using h

theorem bytes_open {H : Type} {enc : TypeId × Value → H} {P : Program} {W : World} {base : Nat} {spare : Nat → Bool} {held : Bool} {t e : TypeId} {a : Option Addr} {len cap : Nat} {d : DataW H} {ps : List MemPlace}
    (hu : P.underlying t = some (.slice e)) (he : P.underlying e = some (.int .u8)) (hc : P.cellsOf e = 1) (h : DataW.Trod enc P W base spare held t (.slice a len cap) d ps) :
    ∃ l : List UInt8, len = l.length ∧ l.length ≤ cap ∧ cap ≤ 9223372036854775807 ∧ ReadB W W.heap.size a l := by
  obtain ⟨fuel, hf⟩ := h
  rcases open_ints hu he hc hf with ⟨hcs, _⟩ | ⟨x, l, c, zs, hcs, _, hl, hm, hz, hx, hcell, hwz⟩
  · simp [Value.cells] at hcs
    obtain ⟨rfl, rfl, rfl⟩ := hcs
    exact ⟨[], rfl, by simp, by omega, ReadB.nil⟩
  · simp [Value.cells] at hcs
    obtain ⟨rfl, rfl, rfl⟩ := hcs
    have hl2 : len ≤ zs.length := by
      rw [hz]
      split
      · exact hl
      · exact Nat.le_refl _
    have hb : ∀ k, k < zs.length → ((UInt8.ofNat (zs.getD k 0).toNat).toNat : Int) = zs.getD k 0 := fun k hk => by
      have hmem : zs.getD k 0 ∈ zs := by simp [List.getD, hk]
      have := bd_u8 (hwz _ hmem)
      rw [UInt8.toNat_ofNat']
      omega
    refine ⟨(zs.take len).map fun z => UInt8.ofNat z.toNat, by simp; omega, by simp; omega, by simpa [maxLen] using hm, ?_⟩
    intro hn
    have hn2 : 0 < len := by simp at hn; omega
    have h0 : W.cell? x = some (.int .u8 (zs.getD 0 0)) := by
      have := hcell 0 (by omega)
      rwa [add_zero_] at this
    have hs : x.spot = none := by
      unfold World.cell? at h0
      split at h0
      · split at h0
        · cases h0
        · rename_i hs; simpa using hs
      · cases h0
    have hblk := block_lt_of_cell h0
    obtain ⟨b, o, s⟩ := x
    simp only at hs
    subst hs
    refine ⟨b, o, rfl, hblk, fun k hk => ?_⟩
    have hk2 : k < len := by simp at hk; omega
    have := hcell k (by omega)
    rw [add_lit_] at this
    rw [this]
    have e : (((zs.take len).map fun z => UInt8.ofNat z.toNat).getD k 0) = UInt8.ofNat (zs.getD k 0).toNat := by
      simp [List.getD, hk2, show k < zs.length by omega]
    rw [e, hb k (by omega)]

theorem sized_ints {H : Type} {enc : TypeId × Value → H} {P : Program} {W : World} {base : Nat} {spare : Nat → Bool} {held : Bool} {t e : TypeId} {k : IntKind} {a : Option Addr} {len cap : Nat} {d : DataW H} {ps : List MemPlace} {ts : List TypeId} {ds : List (DataW H)} {j : Nat}
    (hsz : (DataW.weightsEach P ts ds).all (· ≤ reachBytes) = true) (ht : ts[j]? = some t) (hd : ds[j]? = some d) (hu : P.underlying t = some (.slice e)) (he : P.underlying e = some (.int k)) (hc : P.cellsOf e = 1) {B : Nat} (hB : P.bytesOf e = B)
    (h : DataW.Trod enc P W base spare held t (.slice a len cap) d ps) : len * B ≤ 140737488351232 := by
  obtain ⟨fuel, hf⟩ := h
  rcases open_ints hu he hc hf with ⟨hcs, _⟩ | ⟨x, l, c, zs, hcs, _, hl, _, hz, hx, _, _⟩
  · simp [Value.cells] at hcs
    obtain ⟨rfl, rfl, rfl⟩ := hcs
    simp
  · simp [Value.cells] at hcs
    obtain ⟨rfl, rfl, rfl⟩ := hcs
    obtain ⟨hx, _⟩ := Prod.mk.inj hx
    subst hx
    have z := sized_slice hsz ht hd hu
    rw [hB] at z
    have hl2 : len ≤ zs.length := by
      rw [hz]
      split
      · exact hl
      · exact Nat.le_refl _
    have h1 : (lits (H := H) k (zs.take len)).length + (lits (H := H) k (zs.drop len)).length = zs.length := by
      simp [lits]
      omega
    rw [h1] at z
    exact Nat.le_trans (Nat.mul_le_mul_right _ hl2) z
end Rk
end Go.Proofs.YtlkcibhdnicpkaaDoor
/- What the listed variable gives the walks: the round words lie in it; and the start's own heap meets the condition. -/
namespace Go.Proofs.YtlkcibhdnicpkaaDoor
namespace Ld
open Go.ChangeShapes Go.WideShapes Go.ChangeAt Go.RowKit Sm Ba
set_option linter.unusedVariables false
def laid1 : List (String × DataW Unit) := [("sumpter/sha.rounds", Rows.laid_sumpter_sha_rounds)]
theorem gN : Tryd.prog.globalNamed "sumpter/sha.rounds" = some 0 := by kernel_rfl
theorem gT : (Tryd.prog.globals[0]?).map (·.type) = some 65 := by kernel_rfl
def zs : List Int := rounds.map U
set_option maxRecDepth 100000 in
theorem datum_eq : (Rows.laid_sumpter_sha_rounds : DataW Unit) = Lib.tabData .u32 zs := by rfl
set_option maxRecDepth 100000 in
theorem door_met (os : Os) (args : Array Value) : laidMetH Tryd.prog laid1 ((World.doorLaid Tryd.prog 14 os).forCall (fun _ _ => 0) ⟨#[], args, []⟩).memory :=
  laidMetH_of_parts3 (fuel := 8) (laidMet_of_run' 8 (by kernel_rfl) (by kernel_rfl)) (by kernel_rfl) (by kernel_rfl)
set_option maxRecDepth 100000 in
theorem tab_of_laid {W : World} (h : laidMetH Tryd.prog laid1 W) : Tab W := by
  rw [MakeChecks.laidMetH_plain _ _ _ (by kernel_rfl)] at h
  unfold laid1 at h
  rw [datum_eq] at h
  have hT := Lib.tabIs_of_head gN gT Tryd.underlying65 Tryd.underlying61 (by kernel_rfl) (by kernel_rfl) h
  have hc : ∀ j, j < 64 → W.cell? ⟨0, j, none⟩ = some (.int .u32 (U (Sm.g rounds j))) := fun j hj => by
    have := hT.cell gN j hj
    rw [this]
    congr 2
    unfold zs Sm.g
    have hl : rounds.length = 64 := rfl
    simp only [List.getD_eq_getElem?_getD, List.getElem?_map]
    rw [List.getElem?_eq_getElem (by omega)]
    rfl
  refine ⟨block_lt_of_cell (hc 0 (by omega)), fun j v hv => ?_⟩
  have hj : j < 64 := by
    rcases Nat.lt_or_ge j 64 with h1 | h1
    · exact h1
    · rw [List.getElem?_eq_none (by rw [wvs_len]; exact h1)] at hv; cases hv
  rw [Nat.zero_add, hc j hj, ← hv]
  have hl : rounds.length = 64 := rfl
  unfold wvs Sm.g
  rw [List.getElem?_map, List.getElem?_eq_getElem (by omega), List.getD_eq_getElem?_getD, List.getElem?_eq_getElem (by omega)]
  rfl
end Ld
end Go.Proofs.YtlkcibhdnicpkaaDoor
/- Noughts behind a short key change nothing; a long key is as good as its sum: the walk of the statement. -/
namespace Go.Proofs.YtlkcibhdnicpkaaDoor
namespace Mc
open Go.RowKit Ba Sm
set_option linter.unusedVariables false
theorem hmac_nought (k b : List UInt8) (h : k.length < 64) : hmac (k ++ [0]) b = hmac k b := by
  have e1 : mkey (k ++ [0]) = k ++ [0] := by rw [mkey, if_neg (by simp; omega)]
  have e2 : mkey k = k := by rw [mkey, if_neg (by omega)]
  have e3 : ∀ x, mpad (k ++ [0]) x = mpad k x := fun x => by
    unfold mpad
    apply List.map_congr_left
    intro i _
    congr 1
    simp only [List.getD, List.getElem?_append]
    by_cases hi : i < k.length
    · rw [if_pos hi]
    · rw [if_neg hi, List.getElem?_eq_none (by omega : k.length ≤ i)]
      cases hj : i - k.length with
      | zero => rfl
      | succ n => simp
  rw [hmac, hmac, e1, e2, e3, e3]
theorem hmac_sum (k b : List UInt8) (h : 64 < k.length) : hmac (sha k) b = hmac k b := by
  have e1 : mkey (sha k) = sha k := by rw [mkey, if_neg (by rw [hash_len]; omega)]
  have e2 : mkey k = sha k := by rw [mkey, if_pos h]
  rw [hmac, hmac, e1, e2]
set_option maxRecDepth 100000 in
set_option maxHeartbeats 4000000 in
theorem macKeys_calls (k b : List UInt8) (A B : Option Addr) (c d : Nat) (hkc : k.length ≤ c) (hkm : c ≤ 9223372036854775807) (hbd : b.length ≤ d) (hbm : d ≤ 9223372036854775807) (w : World) (htab : Tab w) (hr : ReadB w w.heap.size A k) (hrb : ReadB w w.heap.size B b) :
    Calls Tryd.prog 11 #[.slice A k.length c, .slice B b.length d] w fun e w' => e = .returned (.bool true) ∧ Below w.heap.size w w' := by
  have hw := awake_calls
  have Hw := Lib.hid hw
  have Hr := Lib.hid hr
  have Hb := Lib.hid hrb
  have Htab := Lib.hid htab
  clear hw hr htab hrb
  by_cases h1 : 100 < k.length
  · have g1 : decide (100 < (k.length : Int)) = true := by rw [decide_eq_true_eq]; omega
    go_enter Tryd.func11, Tryd.ntmps11
    go_wp2_with (go_at_call 27; refine (Hw.out _ Htab.out).mono ?_; rintro e w5 ⟨rfl, hb5⟩)
    go_ret
    exact ⟨rfl, hb5⟩
  by_cases h2 : 200 < b.length
  · have g1 : decide (200 < (b.length : Int)) = true := by rw [decide_eq_true_eq]; omega
    have g2 : decide (100 < (k.length : Int)) = false := by rw [decide_eq_false_iff_not]; omega
    go_enter Tryd.func11, Tryd.ntmps11
    go_wp2_with (go_at_call 27; refine (Hw.out _ Htab.out).mono ?_; rintro e w5 ⟨rfl, hb5⟩)
    go_ret
    exact ⟨rfl, hb5⟩
  have g1 : decide (200 < (b.length : Int)) = false := by rw [decide_eq_false_iff_not]; omega
  have g2 : decide (100 < (k.length : Int)) = false := by rw [decide_eq_false_iff_not]; omega
  by_cases h3 : k.length = 64
  · have g3 : decide ((k.length : Int) < 64) = false := by rw [decide_eq_false_iff_not]; omega
    have g4 : ((k.length : Int) == 64) = true := by rw [h3]; rfl
    have H3 := Lib.hid h3
    clear h3
    go_enter Tryd.func11, Tryd.ntmps11
    go_wp2_with (go_at_call 27; refine (Hw.out _ Htab.out).mono ?_; rintro e w5 ⟨rfl, hb5⟩)
    go_ret
    exact ⟨rfl, hb5⟩
  have g4 : ((k.length : Int) == 64) = false := by rw [beq_eq_false_iff_ne]; omega
  have hlo := hmac_len k b
  obtain ⟨H, hH⟩ : ∃ H, H = hmac k b := ⟨_, rfl⟩
  rw [← hH] at hlo
  have heq : ∀ w', (binOp .eql 26 (.agg (bvs H).toArray) (.agg (bvs H).toArray)).run Tryd.prog w' = .ok (.bool true) w' := fun w' => by rw [Sk.run_eqB H H hlo hlo w', beq_self_eq_true]
  have hflat : [b].flatten = b := by simp
  have Hflat := Lib.hid hflat
  have HH := Lib.hid hH
  clear hH hlo h3 hflat
  by_cases h4 : k.length < 64
  · have g3 : decide ((k.length : Int) < 64) = true := by rw [decide_eq_true_eq]; omega
    obtain ⟨i0, hi0⟩ := isByte_of info5
    have Hi := Lib.hid hi0
    have hno := hmac_nought k b h4
    have Hno := Lib.hid hno
    clear hi0 hno
    go_enter Tryd.func11, Tryd.ntmps11
    go_wp2_with (first
      | (at_builtin; refine wpList_appB _ rfl (.tmp 18) (.tmp 19) 22 rfl w.heap.size 5 i0 Tryd.underlying22 Hi.out _ [] rfl (OwnB.lit0 w 5 w.heap.size w.heap.size rfl (Nat.le_refl _)) w.heap.size A _ c k rfl rfl (Hr.out.alloc (Nat.le_refl _) _) (by simp; omega) (by simp) ?_; intro v1 w1 ho1 _ _ hb1; rw [List.nil_append] at ho1; have Ho1 := Lib.hid (ho1.alloc (.cells #[.int .u8 0] 5)); have HB1 := Lib.hid (((Below.refl _ _).alloc (Nat.le_refl _) _).trans hb1); have hlit := ReadB.litN w1 5 [.int .u8 0] [0] w1.heap.size rfl rfl; have Hlit := Lib.hid hlit; clear ho1 hb1 hlit)
      | (at_builtin; refine wpList_appB _ rfl (.tmp 20) (.tmp 21) 22 rfl w.heap.size 5 i0 Tryd.underlying22 Hi.out v1 k rfl Ho1.out (w1.heap.size + 1) _ 1 1 [0] rfl rfl Hlit.out (by simp; omega) (by have := HB1.out.size; simp; omega) ?_; intro v2 w2 ho2 _ _ hb2; have HB2 := Lib.hid ((HB1.out.alloc HB1.out.size _).trans hb2); obtain ⟨A2, c2, rfl, q1, q2, q3, q4⟩ := ho2.opens; have Q3 := Lib.hid q3; have Q1 := Lib.hid q1; clear ho2 hb2 q3 q4 q1 Ho1 HB1 Hlit))
    have hbb := ReadBB.lit1 w2 22 B b.length d b w2.heap.size w2.heap.size rfl (Nat.le_refl _) rfl ((Hb.out.below HB2.out).more HB2.out.size) hbd hbm
    have HA := Lib.hid ((Below.refl w2.heap.size w2).alloc (Nat.le_refl _) (.cells #[.slice B b.length d] 22))
    have HF := Lib.hid (HB2.out.trans (HA.out.mono HB2.out.size))
    refine (mofN (k := k ++ [0]) (ps := [b]) (by simp) rfl ((Q3.out.below HA.out).more HA.out.size) (hbb.more (by simp)) (Htab.out.below HF.out) Q1.out q2 (by simp; omega) (by simp) (by omega) (by intro p hp; simp at hp; subst hp; omega) (by rw [Hflat.out]; omega)).mono ?_
    rw [Hflat.out, Hno.out, ← HH.out]
    rintro e w3 ⟨rfl, hb3⟩
    have HB3 := Lib.hid (HF.out.trans (hb3.mono HF.out.size))
    clear hb3 hbb HA HF HB2 Q1 Q3
    go_wp2_with fail
    have hbb := ReadBB.lit1 w3 22 B b.length d b w3.heap.size w3.heap.size rfl (Nat.le_refl _) rfl ((Hb.out.below HB3.out).more HB3.out.size) hbd hbm
    have HA := Lib.hid ((Below.refl w3.heap.size w3).alloc (Nat.le_refl _) (.cells #[.slice B b.length d] 22))
    have HF := Lib.hid (HB3.out.trans (HA.out.mono HB3.out.size))
    refine (mofN (k := k) (ps := [b]) rfl rfl ((Hr.out.below HF.out).more HF.out.size) (hbb.more (by simp)) (Htab.out.below HF.out) hkc hkm (by omega) (by simp) (by omega) (by intro p hp; simp at hp; subst hp; omega) (by rw [Hflat.out]; omega)).mono ?_
    rw [Hflat.out, ← HH.out]
    rintro e w4 ⟨rfl, hb4⟩
    have HB4 := Lib.hid (HF.out.trans (hb4.mono HF.out.size))
    clear hb4 hbb HA HF HB3
    go_wp2_with (go_at_call 27; refine (Hw.out _ (Htab.out.below HB4.out)).mono ?_; rintro e w5 ⟨rfl, hb5⟩)
    go_ret
    exact ⟨rfl, HB4.out.trans (hb5.mono HB4.out.size)⟩
  · have g3 : decide ((k.length : Int) < 64) = false := by rw [decide_eq_false_iff_not]; omega
    have h64 : 64 < k.length := by have := beq_eq_false_iff_ne.1 g4; omega
    have hsum := hmac_sum k b h64
    have hs32 := hash_len k
    obtain ⟨D, hD⟩ : ∃ D, D = sha k := ⟨_, rfl⟩
    rw [← hD] at hsum hs32
    have HD := Lib.hid hD
    have Hsum := Lib.hid hsum
    have HD32 := Lib.hid hs32
    clear hD hsum hs32
    go_enter Tryd.func11, Tryd.ntmps11
    go_wp2_with fail
    refine (of1 (W := w) (k := k) rfl rfl Hr.out Htab.out hkc hkm (by omega)).mono ?_
    rw [← HD.out]
    rintro e w1 ⟨rfl, hb1⟩
    have HB1 := Lib.hid hb1
    clear hb1
    go_wp2_with (refine wpList_store_blk rfl 26 (.tmp 5) (.tmp 40) rfl w1.heap.size 0 26 [] (bvs (List.replicate 32 0)) [] (bvs D) rfl rfl (by rw [bvs_rep32]; exact heap_alloc_new _ _) rfl (by rw [bvs_length, bvs_length, HD32.out]; rfl) (by rw [bvs_length, HD32.out]; kernel_rfl) (bvs_one _) ?_; intro w2 hX2 hg2)
    have hk2 := after_store HB1.out hg2 rfl
    have hr2 : ReadB w2 w2.heap.size (some ⟨w1.heap.size, 0, none⟩) D := readB_of (by simpa using hX2)
    have HB2 := Lib.hid hk2.1
    have Q3 := Lib.hid hr2
    clear hX2 hg2 hk2 hr2 HB1
    generalize w1.heap.size = gd at *
    have hbb := ReadBB.lit1 w2 22 B b.length d b w2.heap.size w2.heap.size rfl (Nat.le_refl _) rfl ((Hb.out.below HB2.out).more HB2.out.size) hbd hbm
    have HA := Lib.hid ((Below.refl w2.heap.size w2).alloc (Nat.le_refl _) (.cells #[.slice B b.length d] 22))
    have HF := Lib.hid (HB2.out.trans (HA.out.mono HB2.out.size))
    refine (mofN (k := D) (ps := [b]) (by rw [HD32.out]) rfl ((Q3.out.below HA.out).more HA.out.size) (hbb.more (by simp)) (Htab.out.below HF.out) (by rw [HD32.out]; omega) (by omega) (by rw [HD32.out]; omega) (by simp) (by omega) (by intro p hp; simp at hp; subst hp; omega) (by rw [Hflat.out]; omega)).mono ?_
    rw [Hflat.out, Hsum.out, ← HH.out]
    rintro e w3 ⟨rfl, hb3⟩
    have HB3 := Lib.hid (HF.out.trans (hb3.mono HF.out.size))
    clear hb3 hbb HA HF HB2 Q3
    go_wp2_with fail
    have hbb := ReadBB.lit1 w3 22 B b.length d b w3.heap.size w3.heap.size rfl (Nat.le_refl _) rfl ((Hb.out.below HB3.out).more HB3.out.size) hbd hbm
    have HA := Lib.hid ((Below.refl w3.heap.size w3).alloc (Nat.le_refl _) (.cells #[.slice B b.length d] 22))
    have HF := Lib.hid (HB3.out.trans (HA.out.mono HB3.out.size))
    refine (mofN (k := k) (ps := [b]) rfl rfl ((Hr.out.below HF.out).more HF.out.size) (hbb.more (by simp)) (Htab.out.below HF.out) hkc hkm (by omega) (by simp) (by omega) (by intro p hp; simp at hp; subst hp; omega) (by rw [Hflat.out]; omega)).mono ?_
    rw [Hflat.out, ← HH.out]
    rintro e w4 ⟨rfl, hb4⟩
    have HB4 := Lib.hid (HF.out.trans (hb4.mono HF.out.size))
    clear hb4 hbb HA HF HB3
    go_wp2_with (go_at_call 27; refine (Hw.out _ (Htab.out.below HB4.out)).mono ?_; rintro e w5 ⟨rfl, hb5⟩)
    go_ret
    exact ⟨rfl, HB4.out.trans (hb5.mono HB4.out.size)⟩
end Mc
end Go.Proofs.YtlkcibhdnicpkaaDoor
/- Rows of rows of bytes that a call makes and appends to. -/
namespace Go.Proofs.YtlkcibhdnicpkaaDoor
namespace Br
open Go.RowKit Ba Sm
set_option linter.unusedVariables false
def OwnBB (w : World) (base : Nat) (E2 E : TypeId) (v : Value) (qs : List (List UInt8)) : Prop :=
  ∃ vs, w.ownsRow base E2 1 v qs.length vs ∧ ∀ i, i < qs.length → ∃ A c, vs[i]? = some (.slice A (qs.getD i []).length c) ∧ (qs.getD i []).length ≤ c ∧ c ≤ 9223372036854775807 ∧ ReadT w E A (qs.getD i [])
section
variable {w w' : World} {base : Nat} {E2 E : TypeId} {v : Value} {qs : List (List UInt8)}
theorem readT_row {A : Option Addr} {l : List UInt8} {size n : Nat} {xs : List Value} (h : ReadT w E A l) (ho : w.ownsRow base E2 size v n xs) (hg : w.grownBy w' v.ownBlock) (hne : E2 ≠ E) : ReadT w' E A l := fun hn => by
  obtain ⟨b, o, cs, e, hB, hc⟩ := h hn
  have hb : some b ≠ v.ownBlock := fun e2 => own_blk_ne ho hB hne e2.symm
  exact ⟨b, o, cs, e, hB.grown hg hb, fun k hk => (World.cell?_of_block (hg.block b hB.lt hb)).trans (hc k hk)⟩
theorem OwnBB.keptB (h : OwnBB w base E2 E v qs) (hb : Below w.heap.size w w') : OwnBB w' base E2 E v qs := by
  obtain ⟨vs, h1, h2⟩ := h
  refine ⟨vs, World.ownsRow.kept (row := none) h1 ⟨hb.os, hb.tape, hb.output, hb.size, fun k hk _ => hb.block k hk⟩ (by cases v.ownBlock <;> simp), fun i hi => ?_⟩
  obtain ⟨A, c, h3, h4, h5, h6⟩ := h2 i hi
  exact ⟨A, c, h3, h4, h5, h6.below hb⟩
theorem OwnBB.opens (h : OwnBB w base E2 E v qs) : ∃ A c, v = .slice A qs.length c ∧ qs.length ≤ c ∧ c ≤ 9223372036854775807 ∧ ReadBB w w.heap.size A qs := by
  obtain ⟨vs, h1, h2⟩ := h
  obtain ⟨hl, hn | ⟨g, cap, cur, hv, hb, hg, hc, hm, hs, ht⟩⟩ := h1
  · obtain ⟨rfl, hq⟩ := hn
    rw [hq]
    exact ⟨none, 0, rfl, Nat.le_refl _, by omega, fun h => absurd h (by omega)⟩
  · have hbk : Blk w g E2 cur := hg
    refine ⟨some ⟨g, 0, none⟩, cap, hv, hc, by unfold maxLen at hm; omega, fun _ => ⟨g, 0, rfl, hbk.lt, fun k hk => ?_⟩⟩
    obtain ⟨A, c, h3, h4, h5, h6⟩ := h2 k hk
    refine ⟨A, c, ?_, h4, h5, h6.readB⟩
    rw [Blk.cell hbk, Nat.zero_add, ← h3, ← ht, List.getElem?_take_of_lt (by omega)]
    simp
/-- a row of one part -/
theorem OwnBB.lit1 (w : World) (E2 E : TypeId) (g base : Nat) (A : Option Addr) (n c : Nat) (p : List UInt8) (hg : g = w.heap.size) (hb : base ≤ w.heap.size) (hn : n = p.length) (hc : p.length ≤ c) (hm : c ≤ 9223372036854775807) (hT : ReadT w E A p) :
    OwnBB (w.alloc (.cells #[.slice A n c] E2)) base E2 E (.slice (some ⟨g, 0, none⟩) 1 1) [p] := by
  subst hg hn
  refine ⟨_, World.ownsRow_lit w #[.slice A p.length c] 1 hb (by unfold maxLen; omega) rfl, fun i hi => ?_⟩
  have : i = 0 := by simp at hi; omega
  subst this
  exact ⟨A, c, rfl, hc, hm, hT.below ((Below.refl _ _).alloc (Nat.le_refl _) _)⟩
end
def IsRow (P : Program) (E : TypeId) (i : TypeInfo) : Prop := P.info? E = some i ∧ i.zero = some (.slice none 0 0) ∧ i.size = 1 ∧ i.bytes = 24
theorem isRow_of {P : Program} {E : TypeId} (h : (P.info? E).map (fun i => (i.zero, i.size, i.bytes)) = some (some (.slice none 0 0), 1, 24)) : ∃ i, IsRow P E i := by
  cases hi : P.info? E with
  | none => rw [hi] at h; simp at h
  | some i =>
    rw [hi] at h
    simp only [Option.map_some, Option.some.injEq, Prod.mk.injEq] at h
    exact ⟨i, hi, h.1, h.2.1, h.2.2⟩
/-- append of a row of one part -/
theorem wpList_appBB1 {P : Program} (w : World) {ops : Array Oper} {rest : List Oper} {o : Oper} {a : Act} {Q : Exit → Act → World → Prop} (hgd : o.guard = none) (s x : Operand) (t : TypeId)
    (ho : o.op = .call { callee := .builtin .append, args := #[s, x], argTypes := #[t, t] })
    (base : Nat) (E2 E : TypeId) (i : TypeInfo) (ht : P.underlying t = some (.slice E2)) (hi : IsRow P E2 i) (hne : E2 ≠ E)
    (v : Value) (qs : List (List UInt8)) (hs : a.eval s = v) (hown : OwnBB w base E2 E v qs)
    (g : Nat) (A : Option Addr) (n c : Nat) (p : List UInt8) (hx : a.eval x = .slice (some ⟨g, 0, none⟩) 1 1) (hcell : w.cell? ⟨g, 0, none⟩ = some (.slice A n c)) (hg : g < w.heap.size) (hn : n = p.length) (hc : p.length ≤ c) (hcm : c ≤ 9223372036854775807) (hT : ReadT w E A p)
    (hbytes : qs.length + 1 ≤ 5864062014805) (hbase : base ≤ w.heap.size)
    (h : ∀ v' w', OwnBB w' base E2 E v' (qs ++ [p]) → w.grownBy w' v.ownBlock → (v'.ownBlock = v.ownBlock ∨ v'.ownBlock = some w.heap.size) → Below base w w' → wpList P ops Q rest (a.put o.dst v') w') : wpList P ops Q (o :: rest) a w := by
  subst hn
  obtain ⟨vs, h1, h2⟩ := hown
  have hvl : vs.length = qs.length := by have := h1.1; omega
  refine wpList_append_any w hgd s x t ho base E2 i (.slice none 0 0) 1 24 ht hi.1 hi.2.1 hi.2.2.1 hi.2.2.2 rfl (by omega) v qs.length vs hs h1 w.heap.size (some ⟨g, 0, none⟩) 1 1 [.slice A p.length c] hx ⟨rfl, fun _ => ⟨_, rfl, hg, fun j u hj => ?_⟩⟩ (by intro u hu; simp at hu; subst hu; rfl) (by unfold maxLen; omega) (by omega) hbase ?_
  · have hj0 : j = 0 := by
      have := (List.getElem?_eq_some_iff.1 hj).1
      simp at this; exact this
    subst hj0
    simp at hj
    subst hj
    rw [add_zero_]
    exact hcell
  · intro v' w' h3 h4 h5
    refine h v' w' ⟨_, by rw [List.length_append]; exact h3, fun j hj => ?_⟩ h4 h5 ((Below.refl base w).grown h4 hbase (fun k hk => (World.ownsRow.lt h1 k hk).1))
    rcases Nat.lt_or_ge j qs.length with hlt | hge
    · obtain ⟨A', c', k1, k2, k3, k4⟩ := h2 j hlt
      have e : (qs ++ [p]).getD j [] = qs.getD j [] := by simp [List.getD, List.getElem?_append_left hlt]
      rw [e]
      exact ⟨A', c', by rw [List.getElem?_append_left (by omega)]; exact k1, k2, k3, readT_row k4 h1 h4 hne⟩
    · have hj2 : j = qs.length := by simp at hj; omega
      subst hj2
      have e : (qs ++ [p]).getD qs.length [] = p := by simp [List.getD]
      rw [e]
      exact ⟨A, c, by rw [List.getElem?_append_right (by omega), hvl, Nat.sub_self]; rfl, hc, hcm, readT_row hT h1 h4 hne⟩
end Br
end Go.Proofs.YtlkcibhdnicpkaaDoor

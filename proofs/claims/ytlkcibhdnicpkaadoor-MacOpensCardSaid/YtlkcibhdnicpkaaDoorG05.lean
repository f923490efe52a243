/- A key as a block, by the document's answer: the walk of its pad. -/
import Derived.Test.YtlkcibhdnicpkaaDoorG01
import Derived.Test.YtlkcibhdnicpkaaDoorG02
import Derived.Test.YtlkcibhdnicpkaaDoorG03
import Derived.Test.YtlkcibhdnicpkaaDoorG04
import Derived.Deep.RegionHeld3
import Derived.Below
namespace Go.Proofs.YtlkcibhdnicpkaaDoor
namespace Mc
open Go.RowKit Ba Sm
set_option linter.unusedVariables false
/-- the row so far: the bytes that follow are noughts -/
def rpt (k : List UInt8) (x : UInt8) (i : Nat) : List UInt8 := (List.range 64).map fun j => if j < i then k.getD j 0 ^^^ x else 0
theorem rpt_len (k : List UInt8) (x : UInt8) (i : Nat) : (rpt k x i).length = 64 := by simp [rpt]
theorem rpt_zero (k : List UInt8) (x : UInt8) : rpt k x 0 = List.replicate 64 0 := by
  apply List.ext_getElem
  · simp [rpt]
  · intro j h1 h2
    simp only [rpt, List.getElem_map, Nat.not_lt_zero, if_false]
    rw [List.getElem_replicate]
theorem rpt_end (k : List UInt8) (x : UInt8) : rpt k x 64 = mpad k x := by
  unfold rpt mpad
  apply List.map_congr_left
  intro j hj
  rw [if_pos (List.mem_range.1 hj)]
theorem rpt_step (k : List UInt8) (x : UInt8) (i : Nat) (h : i < 64) : (rpt k x i).set i (k.getD i 0 ^^^ x) = rpt k x (i + 1) := by
  apply List.ext_getElem
  · simp [rpt]
  · intro j h1 h2
    have hj : j < 64 := by simpa [rpt] using h2
    rw [List.getElem_set]
    simp only [rpt, List.getElem_map, List.getElem_range]
    by_cases e : i = j
    · subst e; rw [if_pos rfl, if_pos (by omega)]
    · rw [if_neg e]
      by_cases l : j < i
      · rw [if_pos l, if_pos (by omega)]
      · rw [if_neg l, if_neg (by omega)]
set_option maxRecDepth 100000 in
set_option maxHeartbeats 2000000 in
theorem rpad_short (k : List UInt8) (A : Option Addr) (c : Nat) (hk : k.length ≤ 64) (hkc : k.length ≤ c) (x : UInt8) (w : World) (hr : ReadB w w.heap.size A k) :
    Calls Tryd.prog 51 #[.slice A k.length c, .int .u8 (x.toNat : Int)] w fun e w' => ∃ g, e = .returned (.slice (some ⟨g, 0, none⟩) 64 64) ∧ w.heap.size ≤ g ∧ Blk w' g 5 (bvs (mpad k x)).toArray ∧ Below w.heap.size w w' := by
  obtain ⟨i0, hi0⟩ := isByte_of info5
  have hmk := run_mk64 i0 hi0 w
  have Hr := Lib.hid hr
  have HB := Lib.hid (heap_alloc_new w (.cells (bvs (List.replicate 64 0)).toArray 5))
  have Hb := Lib.hid ((Below.refl w.heap.size w).alloc (Nat.le_refl _) (.cells (bvs (List.replicate 64 0)).toArray 5))
  obtain ⟨W1, hW1⟩ : ∃ W1, W1 = w.alloc (.cells (bvs (List.replicate 64 0)).toArray 5) := ⟨_, rfl⟩
  rw [← hW1] at hmk HB Hb
  clear hr hi0 hW1
  go_enter Tryd.func51, Tryd.ntmps51
  go_wp2_with fail
  go_loopg [7] 64 (fun n v wr => ∃ i : Nat, i ≤ 64 ∧ n = 64 - i ∧ v = .int .i64 i ∧ Blk wr w.heap.size 5 (bvs (rpt k x i)).toArray ∧ Below w.heap.size w wr)
  case atStart => exact ⟨0, by omega, rfl, rfl, by rw [rpt_zero]; exact HB.out, Hb.out⟩
  case round =>
    obtain ⟨i, hi64, hn, rfl, hB, hb⟩ := hrel
    have HX := Lib.hid hB
    have Hbw := Lib.hid hb
    have Hn := Lib.hid hn
    have Hq := Lib.hid (Hr.out.below hb)
    clear hn hb hB
    by_cases hil : i < 64
    · have hcell := Blk.cell HX.out i
      rw [List.getElem?_toArray, bvs_get _ _ (by rw [rpt_len]; omega)] at hcell
      have hfz := Blk.frozen HX.out i
      have hS1 := Blk.set_ HX.out i (.int .u8 (x.toNat : Int))
      rw [toArray_set] at hS1
      by_cases hik : i < k.length
      · obtain ⟨b, o, hA, hbl, hcells⟩ := Hq.out (by omega)
        subst hA
        obtain ⟨a, ha⟩ : ∃ a, a = k.getD i 0 := ⟨_, rfl⟩
        have hc := hcells i hik
        rw [← ha] at hc
        have hx := x8 a x
        have hcell2 := Blk.cell hS1 i
        rw [List.getElem?_toArray, List.getElem?_set_self (by rw [bvs_length, rpt_len]; omega)] at hcell2
        have hfz2 := Blk.frozen hS1 i
        have hS2 := Blk.set_ hS1 i (.int .u8 ((a ^^^ x).toNat : Int))
        rw [toArray_set, List.set_set] at hS2
        have e : (bvs (rpt k x i)).set i (.int .u8 ((a ^^^ x).toNat : Int)) = bvs (rpt k x (i + 1)) := by
          rw [← rpt_step k x i hil, ← ha]
          simp [bvs, List.map_set, bv]
        rw [e] at hS2
        have hc2 : (wr.setCell ⟨w.heap.size, i, none⟩ (.int .u8 (x.toNat : Int))).cell? ⟨b, o + i, none⟩ = some (.int .u8 (a.toNat : Int)) := by
          rw [World.cell?_setCell_other _ _ _ _ (by intro h; injection h with h1; omega)]
          exact hc
        have HS2 := Lib.hid hS2
        generalize (a ^^^ x).toNat = y at *
        clear hS1 hS2 e ha hcells HX
        go_wp2_with fail
        go_roundg (64 - (i + 1))
        case rel => exact ⟨i + 1, by omega, rfl, by simp, HS2.out, (Hbw.out.setCell (by simp) _).setCell (by simp) _⟩
        all_goals (have := Hn.out; omega)
      · have e : (bvs (rpt k x i)).set i (.int .u8 (x.toNat : Int)) = bvs (rpt k x (i + 1)) := by
          rw [← rpt_step k x i hil, show k.getD i 0 = 0 by simp [List.getD, List.getElem?_eq_none (by omega : k.length ≤ i)], UInt8.zero_xor]
          simp [bvs, List.map_set, bv]
        rw [e] at hS1
        have HS2 := Lib.hid hS1
        clear hS1 e HX Hq
        go_wp2_with fail
        go_roundg (64 - (i + 1))
        case rel => exact ⟨i + 1, by omega, rfl, by simp, HS2.out, Hbw.out.setCell (by simp) _⟩
        all_goals (have := Hn.out; omega)
    · have hX := HX.out
      rw [show i = 64 by omega, rpt_end] at hX
      have HX2 := Lib.hid hX
      clear hX HX Hq
      go_wp2_with fail
      go_ret
      exact ⟨_, rfl, Nat.le_refl _, HX2.out, Hbw.out⟩
theorem hx_store {W w1 w2 : World} {o : Obj} (hb : Below W.heap.size W w1) (hg : (w1.alloc o).grownBy w2 (some w1.heap.size)) : Below W.heap.size W w2 ∧ w1.heap.size < w2.heap.size :=
  ⟨(hb.alloc hb.size _).trans (below_of_only hg hb.size (by have := hb.size; simp; omega)), by have := hg.size; simp at this; omega⟩
theorem readB_of {w : World} {g : Nat} {t : TypeId} {l : List UInt8} (hb : Blk w g t (bvs l).toArray) : ReadB w w.heap.size (some ⟨g, 0, none⟩) l := by
  intro _
  refine ⟨g, 0, rfl, hb.lt, fun k hk => ?_⟩
  have := Blk.cell hb k
  rw [List.getElem?_toArray, bvs_get _ _ hk] at this
  simpa using this
set_option maxRecDepth 100000 in
set_option maxHeartbeats 2000000 in
theorem rpad_long (k : List UInt8) (A : Option Addr) (c : Nat) (hk : 64 < k.length) (hkc : k.length ≤ c) (hkm : k.length ≤ 140737488351232) (x : UInt8) (w : World) (hr : ReadB w w.heap.size A k) :
    Calls Tryd.prog 51 #[.slice A k.length c, .int .u8 (x.toNat : Int)] w fun e w' => ∃ g, e = .returned (.slice (some ⟨g, 0, none⟩) 64 64) ∧ w.heap.size ≤ g ∧ Blk w' g 5 (bvs (mpad (sha k) x)).toArray ∧ Below w.heap.size w w' := by
  obtain ⟨i0, hi0⟩ := isByte_of info5
  have hsl := hash_len k
  have Hof := Lib.hid (rof_calls k A c w hr hkc hkm)
  obtain ⟨H, hH⟩ : ∃ H, H = sha k := ⟨_, rfl⟩
  rw [← hH] at hsl Hof ⊢
  have Hl := Lib.hid hsl
  clear hH hr hsl
  go_enter Tryd.func51, Tryd.ntmps51
  go_wp2_with (first
    | (go_at_call 15; refine Calls.mono Hof.out ?_; rintro e w1 ⟨rfl, hb1⟩; have Hb1 := Lib.hid hb1; clear hb1)
    | (refine wpList_store_blk rfl 26 (.tmp 5) (.tmp 12) rfl w1.heap.size 0 26 [] (bvs (List.replicate 32 0)) [] (bvs H) rfl rfl (by rw [bvs_rep32]; exact heap_alloc_new _ _) rfl (by rw [bvs_length, bvs_length, Hl.out]; rfl) (by rw [bvs_length, Hl.out]; kernel_rfl) (bvs_one _) ?_; intro w2 hX2 hg2))
  have hk2 := hx_store Hb1.out hg2
  have hX : Blk w2 w1.heap.size 26 (bvs H).toArray := by simpa using hX2
  have hr2 := readB_of hX
  rw [← Hl.out]
  have hmk := run_mk64 i0 hi0 w2
  have Hr := Lib.hid hr2
  have HB := Lib.hid (heap_alloc_new w2 (.cells (bvs (List.replicate 64 0)).toArray 5))
  have Hb := Lib.hid ((Below.refl w2.heap.size w2).alloc (Nat.le_refl _) (.cells (bvs (List.replicate 64 0)).toArray 5))
  obtain ⟨W1, hW1⟩ : ∃ W1, W1 = w2.alloc (.cells (bvs (List.replicate 64 0)).toArray 5) := ⟨_, rfl⟩
  rw [← hW1] at hmk HB Hb
  have Hbase := Lib.hid hk2.1
  have hHl : H.length ≤ 64 := by rw [Hl.out]; omega
  clear hW1 hX2 hg2 hX hr2 hi0 Hb1 Hof
  rw [hmk]
  simp only [Result.andThen]
  rw [Oper.upon_value]
  clear hk2 hmk
  generalize w1.heap.size = gh at *
  go_wp2_with fail
  go_loopg [7] 64 (fun n v wr => ∃ i : Nat, i ≤ 64 ∧ n = 64 - i ∧ v = .int .i64 i ∧ Blk wr w2.heap.size 5 (bvs (rpt H x i)).toArray ∧ Below w2.heap.size w2 wr)
  case atStart => exact ⟨0, by omega, rfl, rfl, by rw [rpt_zero]; exact HB.out, Hb.out⟩
  case round =>
    obtain ⟨i, hi64, hn, rfl, hB, hb⟩ := hrel
    have HX := Lib.hid hB
    have Hbw := Lib.hid hb
    have Hn := Lib.hid hn
    have Hq := Lib.hid (Hr.out.below hb)
    clear hn hb hB
    by_cases hil : i < 64
    · have hcell := Blk.cell HX.out i
      rw [List.getElem?_toArray, bvs_get _ _ (by rw [rpt_len]; omega)] at hcell
      have hfz := Blk.frozen HX.out i
      have hS1 := Blk.set_ HX.out i (.int .u8 (x.toNat : Int))
      rw [toArray_set] at hS1
      by_cases hik : i < H.length
      · obtain ⟨b, o, hA, hbl, hcells⟩ := Hq.out (by omega)
        injection hA with hA
        injection hA with hA1 hA2
        subst hA1
        subst hA2
        obtain ⟨a, ha⟩ : ∃ a, a = H.getD i 0 := ⟨_, rfl⟩
        have hc := hcells i hik
        rw [← ha] at hc
        have hx := x8 a x
        have hcell2 := Blk.cell hS1 i
        rw [List.getElem?_toArray, List.getElem?_set_self (by rw [bvs_length, rpt_len]; omega)] at hcell2
        have hfz2 := Blk.frozen hS1 i
        have hS2 := Blk.set_ hS1 i (.int .u8 ((a ^^^ x).toNat : Int))
        rw [toArray_set, List.set_set] at hS2
        have e : (bvs (rpt H x i)).set i (.int .u8 ((a ^^^ x).toNat : Int)) = bvs (rpt H x (i + 1)) := by
          rw [← rpt_step H x i hil, ← ha]
          simp [bvs, List.map_set, bv]
        rw [e] at hS2
        have hc2 : (wr.setCell ⟨w2.heap.size, i, none⟩ (.int .u8 (x.toNat : Int))).cell? ⟨gh, 0 + i, none⟩ = some (.int .u8 (a.toNat : Int)) := by
          rw [World.cell?_setCell_other _ _ _ _ (by intro h; injection h with h1; omega)]
          exact hc
        have HS2 := Lib.hid hS2
        rw [Nat.zero_add] at hc hc2
        generalize (a ^^^ x).toNat = y at *
        clear hS1 hS2 e ha hcells HX
        go_wp2_with fail
        go_roundg (64 - (i + 1))
        case rel => exact ⟨i + 1, by omega, rfl, by simp, HS2.out, (Hbw.out.setCell (by simp) _).setCell (by simp) _⟩
        all_goals (have := Hn.out; omega)
      · have e : (bvs (rpt H x i)).set i (.int .u8 (x.toNat : Int)) = bvs (rpt H x (i + 1)) := by
          rw [← rpt_step H x i hil, show H.getD i 0 = 0 by simp [List.getD, List.getElem?_eq_none (by omega : H.length ≤ i)], UInt8.zero_xor]
          simp [bvs, List.map_set, bv]
        rw [e] at hS1
        have HS2 := Lib.hid hS1
        clear hS1 e HX Hq
        go_wp2_with fail
        go_roundg (64 - (i + 1))
        case rel => exact ⟨i + 1, by omega, rfl, by simp, HS2.out, Hbw.out.setCell (by simp) _⟩
        all_goals (have := Hn.out; omega)
    · have hX := HX.out
      rw [show i = 64 by omega, rpt_end] at hX
      have HX2 := Lib.hid hX
      clear hX HX Hq
      go_wp2_with fail
      go_ret
      exact ⟨_, rfl, Hbase.out.size, HX2.out, Hbase.out.trans (Hbw.out.mono Hbase.out.size)⟩
theorem rpad_calls (k : List UInt8) (A : Option Addr) (c : Nat) (hkc : k.length ≤ c) (hkm : k.length ≤ 140737488351232) (x : UInt8) (w : World) (hr : ReadB w w.heap.size A k) :
    Calls Tryd.prog 51 #[.slice A k.length c, .int .u8 (x.toNat : Int)] w fun e w' => ∃ g, e = .returned (.slice (some ⟨g, 0, none⟩) 64 64) ∧ w.heap.size ≤ g ∧ Blk w' g 5 (bvs (mpad (mkey k) x)).toArray ∧ Below w.heap.size w w' := by
  unfold mkey
  by_cases h : 64 < k.length
  · rw [if_pos h]; exact rpad_long k A c h hkc hkm x w hr
  · rw [if_neg h]; exact rpad_short k A c (by omega) hkc x w hr
end Mc
end Go.Proofs.YtlkcibhdnicpkaaDoor
/- A region that draws its order, holds calls and loads, and ends in a store to what it has read: one walk serves every order. F holds till the operation k comes up, which waits for all that lean on F; behind a call F may be made stronger. -/
namespace Go.Proofs.YtlkcibhdnicpkaaDoor
namespace CanM
set_option linter.unusedVariables false
section
variable {P : Program} {ops : Array Oper} {Q : Exit → Act → World → Prop} {F : World → Prop} {k : Nat}

def St (F : World → Prop) (k : Nat) (listed : Array Bool) (w : World) : Prop := listed.getD k false = false → F w
theorem St.mono {listed : Array Bool} {w : World} (h : St F k listed w) (i : Nat) : St F k (listed.setIfInBounds i true) w := fun h1 => h (by
  cases hb : listed.getD k false
  · rfl
  · rw [getD_set_true hb] at h1; cases h1)
def wpAnyL (P : Program) (ops : Array Oper) (Q : Exit → Act → World → Prop) (F : World → Prop) (k : Nat) : Nat → Array Bool → Act → World → Prop
  | 0, listed, a, w => Region.ready .any ops listed = [] ∧ Q .normal a w
  | fuel + 1, listed, a, w => (Region.ready .any ops listed = [] → Q .normal a w) ∧
    ∀ i ∈ Region.ready .any ops listed, wpOp P ops Q i (fun a' w' => St F k (listed.setIfInBounds i true) w' ∧ wpAnyL P ops Q F k fuel (listed.setIfInBounds i true) a' w') a w
theorem wpAny_of_L : ∀ (fuel : Nat) (listed : Array Bool) (a : Act) (w : World), wpAnyL P ops Q F k fuel listed a w → wpAny P .any ops Q fuel listed a w
  | 0, _, _, _, h => h
  | fuel + 1, _, _, _, h => ⟨h.1, fun i hi => wpOp_mono (fun a' w' h' => wpAny_of_L fuel _ a' w' h'.2) (h.2 i hi)⟩
/-- the operation k waits for i -/
def waits (ops : Array Oper) (k i : Nat) : Bool := match ops[k]? with | some o => o.after.any fun e => Region.binds .any e && e.on == i | none => true

theorem unlisted_of_ready {listed : Array Bool} {i : Nat} {oj : Oper} (hr : i ∈ Region.ready .any ops listed) (hall : ∀ e ∈ oj.after, Region.binds .any e = true → listed.getD e.on false = true) : ∀ e ∈ oj.after, Region.binds .any e = true → e.on ≠ i := fun e he hb heq => by
  have h1 := hall e he hb
  have h0 := (mem_ready.1 hr).1
  rw [heq] at h1
  rcases Nat.lt_or_ge i listed.size with h' | h'
  · simp [h'] at h0 h1; rw [h0] at h1; cases h1
  · simp [Array.getElem?_eq_none h'] at h1

/-- what yields under F, before k, may be taken first -/
theorem first {i : Nat} {oi : Oper} {v : Value} (hi : ops[i]? = some oi) (hsel : ∀ (j : Nat) (o : Oper) cs b, ops[j]? = some o → o.op ≠ .select cs b)
    (hQ : ∀ c a w, Q (.panic c) (a.put oi.dst v) w → Q (.panic c) a w) (hk : waits ops k i = true) :
    ∀ (fuel : Nat) (listed : Array Bool) (a : Act) (w : World),
      (∀ j oj, ops[j]? = some oj → j ≠ i → listed.getD j true = false → (∀ e ∈ oj.after, Region.binds .any e = true → e.on ≠ i) → oi.apart ops oj = true) →
      i ∈ Region.ready .any ops listed → YieldsIf P ops F oi v a → listed.getD k false = false → F w →
      wpAnyL P ops Q F k fuel (listed.setIfInBounds i true) (a.put oi.dst v) w → wpAnyL P ops Q F k (fuel + 1) listed a w := by
  intro fuel
  induction fuel with
  | zero =>
    intro listed a w _ hr hy hkl hF H
    refine ⟨fun h => (by rw [h] at hr; cases hr), fun j hj => ?_⟩
    by_cases hji : j = i
    · subst hji; exact hy.wpOp hi hF ⟨fun _ => hF, H⟩
    · have := ready_mono hj hji
      rw [H.1] at this
      cases this
  | succ fuel ih =>
    intro listed a w hfree hr hy hkl hF H
    refine ⟨fun h => (by rw [h] at hr; cases hr), fun j hj => ?_⟩
    by_cases hji : j = i
    · subst hji; exact hy.wpOp hi hF ⟨fun _ => hF, H⟩
    · have h1 := H.2 j (ready_mono hj hji)
      obtain ⟨hjun, oj, hoj, hall⟩ := mem_ready.1 hj
      have hnot := unlisted_of_ready hr hall
      have hjk : j ≠ k := fun e => by
        subst e
        unfold waits at hk
        rw [hoj] at hk
        simp only [Array.any_eq_true', Bool.and_eq_true, beq_iff_eq] at hk
        obtain ⟨e, he, hb, heq⟩ := hk
        exact hnot e he hb heq
      have hkl' : (listed.setIfInBounds j true).getD k false = false := by rw [getD_set_ne false hjk]; exact hkl
      have h2 := wpOp_putIf hoj (hfree j oj hoj hji hjun hnot) (fun cs b => hsel i oi cs b hi) (fun cs b => hsel j oj cs b hoj) hQ hy h1
      have hfree' : ∀ m om, ops[m]? = some om → m ≠ i → (listed.setIfInBounds j true).getD m true = false →
          (∀ e ∈ om.after, Region.binds .any e = true → e.on ≠ i) → oi.apart ops om = true := fun m om hm hmi hun hno => by
        refine hfree m om hm hmi ?_ hno
        by_cases hjm : j = m
        · subst hjm; exact hjun
        · rw [getD_set_ne true hjm] at hun; exact hun
      refine wpOp_mono (fun a' w' h3 => ?_) h2
      obtain ⟨hy', hS', h4⟩ := h3
      have hS2 : F w' := hS' (by rw [Array.setIfInBounds_comm _ _ (Ne.symm hji)]; rw [getD_set_ne false (fun e => by
        subst e
        unfold waits at hk
        rw [hi] at hk
        simp only [Array.any_eq_true', Bool.and_eq_true, beq_iff_eq] at hk
        obtain ⟨e, he, hb, heq⟩ := hk
        obtain ⟨hun, oi', hoi', hall'⟩ := mem_ready.1 hr
        rw [hi] at hoi'
        injection hoi' with hoi'
        subst hoi'
        exact unlisted_of_ready hr hall' e he hb heq)]; exact hkl')
      refine ⟨fun _ => hS2, ih (listed.setIfInBounds j true) a' w' hfree' (ready_mono hr (Ne.symm hji)) hy' hkl' hS2 ?_⟩
      rw [Array.setIfInBounds_comm _ _ hji]
      exact h4

/-- what yields in whatever world may be taken first -/
theorem firstAll {i : Nat} {oi : Oper} {v : Value} (hi : ops[i]? = some oi) (hsel : ∀ (j : Nat) (o : Oper) cs b, ops[j]? = some o → o.op ≠ .select cs b)
    (hQ : ∀ c a w, Q (.panic c) (a.put oi.dst v) w → Q (.panic c) a w) (hik : i ≠ k) :
    ∀ (fuel : Nat) (listed : Array Bool) (a : Act) (w : World),
      (∀ j oj, ops[j]? = some oj → j ≠ i → listed.getD j true = false → (∀ e ∈ oj.after, Region.binds .any e = true → e.on ≠ i) → oi.apart ops oj = true) →
      i ∈ Region.ready .any ops listed → Yields P ops oi v a → St F k listed w →
      wpAnyL P ops Q F k fuel (listed.setIfInBounds i true) (a.put oi.dst v) w → wpAnyL P ops Q F k (fuel + 1) listed a w := by
  intro fuel
  induction fuel with
  | zero =>
    intro listed a w _ hr hy hS H
    refine ⟨fun h => (by rw [h] at hr; cases hr), fun j hj => ?_⟩
    by_cases hji : j = i
    · subst hji; exact hy.wpOp hi ⟨hS.mono _, H⟩
    · have := ready_mono hj hji
      rw [H.1] at this
      cases this
  | succ fuel ih =>
    intro listed a w hfree hr hy hS H
    refine ⟨fun h => (by rw [h] at hr; cases hr), fun j hj => ?_⟩
    by_cases hji : j = i
    · subst hji; exact hy.wpOp hi ⟨hS.mono _, H⟩
    · have h1 := H.2 j (ready_mono hj hji)
      obtain ⟨hjun, oj, hoj, hall⟩ := mem_ready.1 hj
      have hnot := unlisted_of_ready hr hall
      have h2 := wpOp_put hoj (hfree j oj hoj hji hjun hnot) (fun cs b => hsel i oi cs b hi) (fun cs b => hsel j oj cs b hoj) hQ hy h1
      have hfree' : ∀ m om, ops[m]? = some om → m ≠ i → (listed.setIfInBounds j true).getD m true = false →
          (∀ e ∈ om.after, Region.binds .any e = true → e.on ≠ i) → oi.apart ops om = true := fun m om hm hmi hun hno => by
        refine hfree m om hm hmi ?_ hno
        by_cases hjm : j = m
        · subst hjm; exact hjun
        · rw [getD_set_ne true hjm] at hun; exact hun
      refine wpOp_mono (fun a' w' h3 => ?_) h2
      obtain ⟨hy', hS', h4⟩ := h3
      have hS2 : St F k (listed.setIfInBounds j true) w' := fun h5 => hS' (by rw [Array.setIfInBounds_comm _ _ (Ne.symm hji), getD_set_ne false hik]; exact h5)
      refine ⟨hS2, ih (listed.setIfInBounds j true) a' w' hfree' (ready_mono hr (Ne.symm hji)) hy' hS2 ?_⟩
      rw [Array.setIfInBounds_comm _ _ hji]
      exact h4

theorem L_mono {F' : World → Prop} (hF : ∀ w, F' w → F w) : ∀ (fuel : Nat) (listed : Array Bool) (a : Act) (w : World), wpAnyL P ops Q F' k fuel listed a w → wpAnyL P ops Q F k fuel listed a w
  | 0, _, _, _, h => h
  | fuel + 1, _, _, _, h => ⟨h.1, fun i hi => wpOp_mono (fun a' w' h' => ⟨fun h1 => hF _ (h'.1 h1), L_mono hF fuel _ a' w' h'.2⟩) (h.2 i hi)⟩
/-- the walk: (i, 0) a call, a store ..; (i, 1) yields under F; (i, 2) yields in whatever world -/
def wpCan (P : Program) (ops : Array Oper) (Q : Exit → Act → World → Prop) (k : Nat) : List (Nat × Nat) → (World → Prop) → Act → World → Prop
  | [], _, a, w => Q .normal a w
  | (i, 0) :: rest, F, a, w => ∃ o, ops[i]? = some o ∧ ((Region.wanted o (yielded ops a.tmps) = false ∧ wpCan P ops Q k rest F (a.put o.dst undef) w) ∨
      wpOp P ops Q i (fun a w => ∃ F' : World → Prop, (∀ w, F' w → F w) ∧ (i = k ∨ F' w) ∧ wpCan P ops Q k rest F' a w) a w)
  | (i, 1) :: rest, F, a, w => ∃ o v, ops[i]? = some o ∧ YieldsIf P ops F o v a ∧ wpCan P ops Q k rest F (a.put o.dst v) w
  | (i, _ + 2) :: rest, F, a, w => ∃ o v, ops[i]? = some o ∧ Yields P ops o v a ∧ wpCan P ops Q k rest F (a.put o.dst v) w
def canB (ops : Array Oper) (k : Nat) : List (Nat × Nat) → Array Bool → Bool
  | [], listed => (Region.ready .any ops listed).isEmpty
  | (i, 0) :: rest, listed => (Region.ready .any ops listed == [i]) && canB ops k rest (listed.setIfInBounds i true) && (!listed.getD k false || rest.all fun x => x.2 == 2) && (i < listed.size)
  | (i, 1) :: rest, listed => (Region.ready .any ops listed).contains i && Region.free .any ops listed i && waits ops k i && !listed.getD k false && canB ops k rest (listed.setIfInBounds i true)
  | (i, _ + 2) :: rest, listed => (Region.ready .any ops listed).contains i && Region.free .any ops listed i && (i != k) && canB ops k rest (listed.setIfInBounds i true)

theorem wpAny_can (hs : Region.noSelect ops = true) (hQ : ∀ c (dst : Option Tmp) v a w, Q (.panic c) (a.put dst v) w → Q (.panic c) a w) :
    ∀ (ord : List (Nat × Nat)) (F : World → Prop) (listed : Array Bool) (a : Act) (w : World), St F k listed w → canB ops k ord listed = true → wpCan P ops Q k ord F a w → wpAnyL P ops Q F k ord.length listed a w
  | [], _, _, _, _, _, hB, h => ⟨by simpa [canB] using hB, h⟩
  | (i, 0) :: rest, F, listed, a, w, hw, hB, h => by
    simp only [canB, Bool.and_eq_true, beq_iff_eq, decide_eq_true_eq] at hB
    obtain ⟨⟨⟨hr, hB'⟩, _⟩, hsz⟩ := hB
    obtain ⟨o, ho, h⟩ := h
    refine ⟨fun h0 => (by rw [hr] at h0; cases h0), fun j hj => ?_⟩
    rw [hr, List.mem_singleton] at hj
    subst hj
    rcases h with ⟨hg, h⟩ | h
    · unfold wpOp
      simp only [ho, hg, Bool.false_eq_true, if_false]
      exact ⟨hw.mono _, wpAny_can hs hQ rest F _ _ _ (hw.mono _) hB' h⟩
    · refine wpOp_mono (fun a w h1 => ?_) h
      obtain ⟨F', hFF, h1, h2⟩ := h1
      have hS : St F' k (listed.setIfInBounds j true) w := fun h5 => by
        rcases h1 with rfl | hF
        · simp [hsz] at h5
        · exact hF
      exact ⟨fun h5 => hFF _ (hS h5), L_mono hFF _ _ _ _ (wpAny_can hs hQ rest F' _ a w hS hB' h2)⟩
  | (i, 1) :: rest, F, listed, a, w, hw, hB, h => by
    simp only [canB, Bool.and_eq_true, Bool.not_eq_true'] at hB
    obtain ⟨⟨⟨⟨hr, hf⟩, hk⟩, hkl⟩, hB'⟩ := hB
    obtain ⟨o, v, ho, hy, h⟩ := h
    exact first ho (Region.noSelect_spec hs) (fun c a w => hQ c o.dst v a w) hk rest.length listed a w (Region.free_spec ho hf) (by simpa using hr) hy hkl (hw hkl) (wpAny_can hs hQ rest F _ _ _ (hw.mono _) hB' h)
  | (i, _ + 2) :: rest, F, listed, a, w, hw, hB, h => by
    simp only [canB, Bool.and_eq_true, bne_iff_ne] at hB
    obtain ⟨⟨⟨hr, hf⟩, hik⟩, hB'⟩ := hB
    obtain ⟨o, v, ho, hy, h⟩ := h
    exact firstAll ho (Region.noSelect_spec hs) (fun c a w => hQ c o.dst v a w) hik rest.length listed a w (Region.free_spec ho hf) (by simpa using hr) hy hw (wpAny_can hs hQ rest F _ _ _ (hw.mono _) hB' h)

theorem region {id : Nat} {l : List Oper} {a : Act} {w : World} (F : World → Prop) (k : Nat) (ord : List (Nat × Nat)) (hm : P.follows .mixedOrders = true)
    (hB : (Region.noSelect l.toArray && (ord.length == l.length) && canB l.toArray k ord (Array.replicate l.length false)) = true) (hF : F w.drew)
    (h : wpCan P l.toArray (NoPanic Q) k ord F a w.drew) : (Code.region id l.toArray true).wp P Q a w := by
  simp only [Bool.and_eq_true, beq_iff_eq] at hB
  refine wp_region_noPanic (wp_region_any hm ?_)
  have := wpAny_of_L _ _ _ _ (wpAny_can (P := P) (Q := NoPanic Q) (k := k) hB.1.1 (fun c dst v a w h => h.elim) ord F (Array.replicate l.length false) a w.drew (fun _ => hF) hB.2 h)
  rw [hB.1.2] at this
  simpa using this

variable {i : Nat} {o : Oper} {a : Act} {w : World} {b : Nat} {rest : List (Nat × Nat)}
theorem held (hi : ops[i]? = some o) (hg : Region.wanted o (yielded ops a.tmps) = true) (hv : ∃ v, (∀ w', F w' → (execOp a.eval o).run P w' = .ok (.value v) w') ∧ ∀ K : Act → Prop, (∀ a, wpCan P ops Q k rest F a w → K a) → K (a.put o.dst v)) : wpCan P ops Q k ((i, 1) :: rest) F a w :=
  let ⟨v, hv, h⟩ := hv; ⟨o, v, hi, .inl ⟨hg, hv⟩, h _ fun _ h => h⟩
theorem pur (hi : ops[i]? = some o) (hg : Region.wanted o (yielded ops a.tmps) = true) (hv : ∃ v, (∀ w', (execOp a.eval o).run P w' = .ok (.value v) w') ∧ ∀ K : Act → Prop, (∀ a, wpCan P ops Q k rest F a w → K a) → K (a.put o.dst v)) : wpCan P ops Q k ((i, 2) :: rest) F a w :=
  let ⟨v, hv, h⟩ := hv; ⟨o, v, hi, .inl ⟨hg, hv⟩, h _ fun _ h => h⟩
theorem skip (hi : ops[i]? = some o) (hg : Region.wanted o (yielded ops a.tmps) = false) (h : ∀ K : Act → Prop, (∀ a, wpCan P ops Q k rest F a w → K a) → K (a.put o.dst undef)) : wpCan P ops Q k ((i, b) :: rest) F a w :=
  match b with
  | 0 => ⟨o, hi, .inl ⟨hg, h _ fun _ h => h⟩⟩
  | 1 => ⟨o, undef, hi, .inr ⟨hg, rfl⟩, h _ fun _ h => h⟩
  | _ + 2 => ⟨o, undef, hi, .inr ⟨hg, rfl⟩, h _ fun _ h => h⟩
theorem impF (hi : ops[i]? = some o) (h : ∀ K : Act → World → Prop, Go.RowKit.Hid (∀ (F' : World → Prop) a w, (∀ w, F' w → F w) → F' w → wpCan P ops Q k rest F' a w → K a w) → if Region.wanted o (yielded ops a.tmps) then o.wp P a w K Q else K (a.put o.dst undef) w) : wpCan P ops Q k ((i, 0) :: rest) F a w := by
  refine ⟨o, hi, .inr ?_⟩
  have := h (fun a w => ∃ F' : World → Prop, (∀ w, F' w → F w) ∧ (i = k ∨ F' w) ∧ wpCan P ops Q k rest F' a w) (Lib.hid fun F' _ _ hFF hS h => ⟨F', hFF, .inr hS, h⟩)
  unfold wpOp
  simp only [hi]
  split
  · rename_i hw; rw [if_pos hw] at this; exact .inl this
  · rename_i hw; rw [if_neg hw] at this; exact this
theorem imp (hi : ops[i]? = some o) (h : ∀ K : Act → World → Prop, Go.RowKit.Hid (∀ a w, F w → wpCan P ops Q k rest F a w → K a w) → if Region.wanted o (yielded ops a.tmps) then o.wp P a w K Q else K (a.put o.dst undef) w) : wpCan P ops Q k ((i, 0) :: rest) F a w :=
  impF hi fun K hK => h K (Lib.hid fun a w hF h => hK.out F a w (fun _ h => h) hF h)
/-- the operation k itself -/
theorem last (hi : ops[k]? = some o) (h : ∀ K : Act → World → Prop, Go.RowKit.Hid (∀ a w, wpCan P ops Q k rest F a w → K a w) → if Region.wanted o (yielded ops a.tmps) then o.wp P a w K Q else K (a.put o.dst undef) w) : wpCan P ops Q k ((k, 0) :: rest) F a w := by
  refine ⟨o, hi, .inr (wpOp_mono (fun a w h => ⟨F, fun _ h => h, .inl rfl, h⟩) (K := wpCan P ops Q k rest F) ?_)⟩
  have := h (wpCan P ops Q k rest F) (Lib.hid fun _ _ h => h)
  unfold wpOp
  simp only [hi]
  split
  · rename_i hw; rw [if_pos hw] at this; exact .inl this
  · rename_i hw; rw [if_neg hw] at this; exact this
theorem done (h : Q .normal a w) : wpCan P ops (NoPanic Q) k [] F a w := h
end
end CanM
end Go.Proofs.YtlkcibhdnicpkaaDoor
/- A region that draws its order, holds calls and loads, and makes several things in an open order: a tree of orders. F holds till the operation k comes up; behind a call F may be made stronger. -/
namespace Go.Proofs.YtlkcibhdnicpkaaDoor
namespace CanT
open CanM (St wpAny_of_L waits first firstAll L_mono)
open Go.RowKit Ba
set_option linter.unusedVariables false
inductive Ord where
  | nil : Ord
  | op : Nat → Nat → Ord → Ord
  | fork : Ord → Ord → Ord
def ofList : List (Nat × Nat) → Ord
  | [] => .nil
  | (i, b) :: l => .op i b (ofList l)
section
variable {P : Program} {ops : Array Oper} {Q : Exit → Act → World → Prop} {F : World → Prop} {k : Nat}
def heads : Ord → List Nat
  | .nil => []
  | .op i _ _ => [i]
  | .fork l r => heads l ++ heads r
def okLen : Ord → Nat → Bool
  | .nil, 0 => true
  | .nil, _ + 1 => false
  | .op _ _ r, n + 1 => okLen r n
  | .op _ _ _, 0 => false
  | .fork l r, n => okLen l n && okLen r n
def wpCan (P : Program) (ops : Array Oper) (Q : Exit → Act → World → Prop) (k : Nat) : Ord → (World → Prop) → Act → World → Prop
  | .nil, _, a, w => Q .normal a w
  | .op i 0 rest, F, a, w => ∃ o, ops[i]? = some o ∧ ((Region.wanted o (yielded ops a.tmps) = false ∧ wpCan P ops Q k rest F (a.put o.dst undef) w) ∨
      wpOp P ops Q i (fun a w => ∃ F' : World → Prop, (∀ w, F' w → F w) ∧ (i = k ∨ F' w) ∧ wpCan P ops Q k rest F' a w) a w)
  | .op i 1 rest, F, a, w => ∃ o v, ops[i]? = some o ∧ YieldsIf P ops F o v a ∧ wpCan P ops Q k rest F (a.put o.dst v) w
  | .op i (_ + 2) rest, F, a, w => ∃ o v, ops[i]? = some o ∧ Yields P ops o v a ∧ wpCan P ops Q k rest F (a.put o.dst v) w
  | .fork l r, F, a, w => wpCan P ops Q k l F a w ∧ wpCan P ops Q k r F a w
def canB (ops : Array Oper) (k : Nat) : Ord → Bool → Array Bool → Bool
  | .nil, inF, listed => !inF && (Region.ready .any ops listed).isEmpty
  | .op i 0 rest, inF, listed => (inF || Region.ready .any ops listed == [i]) && canB ops k rest false (listed.setIfInBounds i true) && (i < listed.size)
  | .op i 1 rest, inF, listed => !inF && ((Region.ready .any ops listed).contains i && Region.free .any ops listed i && waits ops k i && !listed.getD k false && canB ops k rest false (listed.setIfInBounds i true))
  | .op i (_ + 2) rest, inF, listed => !inF && ((Region.ready .any ops listed).contains i && Region.free .any ops listed i && (i != k) && canB ops k rest false (listed.setIfInBounds i true))
  | .fork l r, inF, listed => (inF || Region.ready .any ops listed == heads l ++ heads r) && canB ops k l true listed && canB ops k r true listed
theorem heads_ne : ∀ (t : Ord) (listed : Array Bool), canB ops k t true listed = true → heads t ≠ []
  | .nil, _, h => by simp [canB] at h
  | .op i _ _, _, _ => by simp [heads]
  | .fork l r, listed, h => by
    simp only [canB, Bool.true_or, Bool.true_and, Bool.and_eq_true] at h
    have := heads_ne l listed h.1
    simp only [heads]
    intro h2
    exact this (List.append_eq_nil_iff.1 h2).1
theorem wpAny_can (hs : Region.noSelect ops = true) (hQ : ∀ c (dst : Option Tmp) v a w, Q (.panic c) (a.put dst v) w → Q (.panic c) a w) :
    ∀ (t : Ord) (F : World → Prop) (n : Nat) (listed : Array Bool) (a : Act) (w : World), St F k listed w → okLen t n = true → wpCan P ops Q k t F a w →
      (canB ops k t false listed = true → CanM.wpAnyL P ops Q F k n listed a w) ∧
      (canB ops k t true listed = true → ∃ m, n = m + 1 ∧ ∀ j ∈ heads t, wpOp P ops Q j (fun a' w' => St F k (listed.setIfInBounds j true) w' ∧ CanM.wpAnyL P ops Q F k m (listed.setIfInBounds j true) a' w') a w)
  | .nil, F, 0, listed, a, w, hw, hl, h => ⟨fun hB => ⟨by simpa [canB] using hB, h⟩, fun hB => by simp [canB] at hB⟩
  | .nil, F, n + 1, listed, a, w, hw, hl, h => by simp [okLen] at hl
  | .op i b rest, F, 0, listed, a, w, hw, hl, h => by simp [okLen] at hl
  | .op i 0 rest, F, n + 1, listed, a, w, hw, hl, h => by
    obtain ⟨o, ho, h⟩ := h
    have key : canB ops k rest false (listed.setIfInBounds i true) = true → i < listed.size → wpOp P ops Q i (fun a' w' => St F k (listed.setIfInBounds i true) w' ∧ CanM.wpAnyL P ops Q F k n (listed.setIfInBounds i true) a' w') a w := by
      intro hB' hsz
      rcases h with ⟨hg, h⟩ | h
      · unfold wpOp
        simp only [ho, hg, Bool.false_eq_true, if_false]
        exact ⟨hw.mono _, (wpAny_can hs hQ rest F n _ _ _ (hw.mono _) hl h).1 hB'⟩
      · refine wpOp_mono (fun a w h1 => ?_) h
        obtain ⟨F', hFF, h1, h2⟩ := h1
        have hS : St F' k (listed.setIfInBounds i true) w := fun h5 => by
          rcases h1 with rfl | hF
          · simp [hsz] at h5
          · exact hF
        exact ⟨fun h5 => hFF _ (hS h5), L_mono hFF _ _ _ _ ((wpAny_can hs hQ rest F' n _ a w hS hl h2).1 hB')⟩
    refine ⟨fun hB => ?_, fun hB => ⟨n, rfl, fun j hj => ?_⟩⟩
    · simp only [canB, Bool.false_or, Bool.and_eq_true, beq_iff_eq, decide_eq_true_eq] at hB
      obtain ⟨⟨hr, hB'⟩, hsz⟩ := hB
      refine ⟨fun h0 => (by rw [hr] at h0; cases h0), fun j hj => ?_⟩
      rw [hr, List.mem_singleton] at hj
      subst hj
      exact key hB' hsz
    · simp only [canB, Bool.true_or, Bool.true_and, Bool.and_eq_true, decide_eq_true_eq] at hB
      simp only [heads, List.mem_singleton] at hj
      subst hj
      exact key hB.1 hB.2
  | .op i 1 rest, F, n + 1, listed, a, w, hw, hl, h => by
    refine ⟨fun hB => ?_, fun hB => by simp [canB] at hB⟩
    simp only [canB, Bool.not_false, Bool.true_and, Bool.and_eq_true, Bool.not_eq_true'] at hB
    obtain ⟨⟨⟨⟨hr, hf⟩, hk⟩, hkl⟩, hB'⟩ := hB
    obtain ⟨o, v, ho, hy, h⟩ := h
    exact first ho (Region.noSelect_spec hs) (fun c a w => hQ c o.dst v a w) hk n listed a w (Region.free_spec ho hf) (by simpa using hr) hy hkl (hw hkl) ((wpAny_can hs hQ rest F n _ _ _ (hw.mono _) hl h).1 hB')
  | .op i (_ + 2) rest, F, n + 1, listed, a, w, hw, hl, h => by
    refine ⟨fun hB => ?_, fun hB => by simp [canB] at hB⟩
    simp only [canB, Bool.not_false, Bool.true_and, Bool.and_eq_true, bne_iff_ne] at hB
    obtain ⟨⟨⟨hr, hf⟩, hik⟩, hB'⟩ := hB
    obtain ⟨o, v, ho, hy, h⟩ := h
    exact firstAll ho (Region.noSelect_spec hs) (fun c a w => hQ c o.dst v a w) hik n listed a w (Region.free_spec ho hf) (by simpa using hr) hy hw ((wpAny_can hs hQ rest F n _ _ _ (hw.mono _) hl h).1 hB')
  | .fork l r, F, n, listed, a, w, hw, hl, h => by
    simp only [okLen, Bool.and_eq_true] at hl
    have key : canB ops k l true listed = true → canB ops k r true listed = true → ∃ m, n = m + 1 ∧ ∀ j ∈ heads l ++ heads r, wpOp P ops Q j (fun a' w' => St F k (listed.setIfInBounds j true) w' ∧ CanM.wpAnyL P ops Q F k m (listed.setIfInBounds j true) a' w') a w := by
      intro h1 h2
      obtain ⟨m, hm, g1⟩ := (wpAny_can hs hQ l F n listed a w hw hl.1 h.1).2 h1
      obtain ⟨m', hm', g2⟩ := (wpAny_can hs hQ r F n listed a w hw hl.2 h.2).2 h2
      have : m' = m := by omega
      subst this
      refine ⟨m', hm, fun j hj => ?_⟩
      rcases List.mem_append.1 hj with h | h
      · exact g1 j h
      · exact g2 j h
    refine ⟨fun hB => ?_, fun hB => ?_⟩
    · simp only [canB, Bool.false_or, Bool.and_eq_true, beq_iff_eq] at hB
      obtain ⟨m, rfl, hk⟩ := key hB.1.2 hB.2
      have hne := heads_ne l listed hB.1.2
      refine ⟨fun h0 => ?_, fun j hj => hk j (by rw [← hB.1.1]; exact hj)⟩
      rw [hB.1.1] at h0
      exact absurd (List.append_eq_nil_iff.1 h0).1 hne
    · simp only [canB, Bool.true_or, Bool.true_and, Bool.and_eq_true] at hB
      exact key hB.1 hB.2

theorem region {id : Nat} {l : List Oper} {a : Act} {w : World} (F : World → Prop) (k : Nat) (ord : Ord) (hm : P.follows .mixedOrders = true)
    (hB : (Region.noSelect l.toArray && okLen ord l.length && canB l.toArray k ord false (Array.replicate l.length false)) = true) (hF : F w.drew)
    (h : wpCan P l.toArray (NoPanic Q) k ord F a w.drew) : (Code.region id l.toArray true).wp P Q a w := by
  simp only [Bool.and_eq_true] at hB
  refine wp_region_noPanic (wp_region_any hm ?_)
  have := wpAny_of_L _ _ _ _ ((wpAny_can (P := P) (Q := NoPanic Q) (k := k) hB.1.1 (fun c dst v a w h => h.elim) ord F l.length (Array.replicate l.length false) a w.drew (fun _ => hF) hB.1.2 h).1 hB.2)
  simpa using this

variable {i : Nat} {o : Oper} {a : Act} {w : World} {b : Nat} {rest : Ord}
theorem held (hi : ops[i]? = some o) (hg : Region.wanted o (yielded ops a.tmps) = true) (hv : ∃ v, (∀ w', F w' → (execOp a.eval o).run P w' = .ok (.value v) w') ∧ ∀ K : Act → Prop, (∀ a, wpCan P ops Q k rest F a w → K a) → K (a.put o.dst v)) : wpCan P ops Q k (.op i 1 rest) F a w :=
  let ⟨v, hv, h⟩ := hv; ⟨o, v, hi, .inl ⟨hg, hv⟩, h _ fun _ h => h⟩
theorem pur (hi : ops[i]? = some o) (hg : Region.wanted o (yielded ops a.tmps) = true) (hv : ∃ v, (∀ w', (execOp a.eval o).run P w' = .ok (.value v) w') ∧ ∀ K : Act → Prop, (∀ a, wpCan P ops Q k rest F a w → K a) → K (a.put o.dst v)) : wpCan P ops Q k (.op i 2 rest) F a w :=
  let ⟨v, hv, h⟩ := hv; ⟨o, v, hi, .inl ⟨hg, hv⟩, h _ fun _ h => h⟩
theorem skip (hi : ops[i]? = some o) (hg : Region.wanted o (yielded ops a.tmps) = false) (h : ∀ K : Act → Prop, (∀ a, wpCan P ops Q k rest F a w → K a) → K (a.put o.dst undef)) : wpCan P ops Q k (.op i b rest) F a w :=
  match b with
  | 0 => ⟨o, hi, .inl ⟨hg, h _ fun _ h => h⟩⟩
  | 1 => ⟨o, undef, hi, .inr ⟨hg, rfl⟩, h _ fun _ h => h⟩
  | _ + 2 => ⟨o, undef, hi, .inr ⟨hg, rfl⟩, h _ fun _ h => h⟩
theorem impF (hi : ops[i]? = some o) (h : ∀ K : Act → World → Prop, Go.RowKit.Hid (∀ (F' : World → Prop) a w, (∀ w, F' w → F w) → F' w → wpCan P ops Q k rest F' a w → K a w) → if Region.wanted o (yielded ops a.tmps) then o.wp P a w K Q else K (a.put o.dst undef) w) : wpCan P ops Q k (.op i 0 rest) F a w := by
  refine ⟨o, hi, .inr ?_⟩
  have := h (fun a w => ∃ F' : World → Prop, (∀ w, F' w → F w) ∧ (i = k ∨ F' w) ∧ wpCan P ops Q k rest F' a w) (Lib.hid fun F' _ _ hFF hS h => ⟨F', hFF, .inr hS, h⟩)
  unfold wpOp
  simp only [hi]
  split
  · rename_i hw; rw [if_pos hw] at this; exact .inl this
  · rename_i hw; rw [if_neg hw] at this; exact this
theorem imp (hi : ops[i]? = some o) (h : ∀ K : Act → World → Prop, Go.RowKit.Hid (∀ a w, F w → wpCan P ops Q k rest F a w → K a w) → if Region.wanted o (yielded ops a.tmps) then o.wp P a w K Q else K (a.put o.dst undef) w) : wpCan P ops Q k (.op i 0 rest) F a w :=
  impF hi fun K hK => h K (Lib.hid fun a w hF h => hK.out F a w (fun _ h => h) hF h)
theorem last (hi : ops[k]? = some o) (h : ∀ K : Act → World → Prop, Go.RowKit.Hid (∀ a w, wpCan P ops Q k rest F a w → K a w) → if Region.wanted o (yielded ops a.tmps) then o.wp P a w K Q else K (a.put o.dst undef) w) : wpCan P ops Q k (.op k 0 rest) F a w := by
  refine ⟨o, hi, .inr (wpOp_mono (fun a w h => ⟨F, fun _ h => h, .inl rfl, h⟩) (K := wpCan P ops Q k rest F) ?_)⟩
  have := h (wpCan P ops Q k rest F) (Lib.hid fun _ _ h => h)
  unfold wpOp
  simp only [hi]
  split
  · rename_i hw; rw [if_pos hw] at this; exact .inl this
  · rename_i hw; rw [if_neg hw] at this; exact this
theorem both {l r : Ord} (h1 : wpCan P ops Q k l F a w) (h2 : wpCan P ops Q k r F a w) : wpCan P ops Q k (.fork l r) F a w := ⟨h1, h2⟩
theorem done (h : Q .normal a w) : wpCan P ops (NoPanic Q) k .nil F a w := h
/-- a row of values out of the midst of a block -/
theorem heldR (hi : ops[i]? = some o) (hg : Region.wanted o (yielded ops a.tmps) = true)
    (ty : TypeId) (x : Operand) (ho : o.op = .load ty x) (g p : Nat) (cs : List Value) (hx : a.eval x = .pointer (some ⟨g, p, none⟩)) (hF : ∀ w', F w' → w'.rangeAt g p cs) (d : TypeDesc) (hu : P.underlying ty = some d) (hd : d.isRow = true)
    (hs : (P.info? ty).map (·.size) = some cs.length) (h : ∀ K : Act → Prop, (∀ a, wpCan P ops Q k rest F a w → K a) → K (a.put o.dst (.agg cs.toArray))) : wpCan P ops Q k (.op i 1 rest) F a w := by
  refine held hi hg ⟨.agg cs.toArray, fun w' hF' => ?_, h⟩
  unfold execOp
  simp only [ho, hx, Instr.loadAt, Instr.sureAddr, Sem.run_bind, Sem.run_pure, Result.andThen_ok, run_loadVar_mid w' g p ty cs d (hF w' hF') hu hd hs]
end
end CanT
end Go.Proofs.YtlkcibhdnicpkaaDoor
/- What the walks of the sums with a key use: rows stored in drawn regions, contracts whose lengths are letters. -/
namespace Go.Proofs.YtlkcibhdnicpkaaDoor
namespace CanT
open Go.RowKit Ba Sm
set_option linter.unusedVariables false
/-- a row of values goes into the midst of a block, the region's last store -/
theorem lastR {P : Program} {ops : Array Oper} {Q : Exit → Act → World → Prop} {F : World → Prop} {k : Nat} {rest : Ord} {o : Oper} {a : Act} {w : World} (hi : ops[k]? = some o) (hg : Region.wanted o (yielded ops a.tmps) = true)
    (ty : TypeId) (x y : Operand) (ho : o.op = .store ty x y) (g p : Nat) (t : TypeId) (pre old post vs : List Value) (hx : a.eval x = .pointer (some ⟨g, p, none⟩)) (hy : a.eval y = .agg vs.toArray) (hb : Blk w g t (pre ++ (old ++ post)).toArray) (hp : pre.length = p) (hl : old.length = vs.length)
    (hs : (P.info? ty).map (·.size) = some vs.length) (h1 : ∀ v ∈ vs, v.oneCell' = true) (h : ∀ w', Blk w' g t (pre ++ (vs ++ post)).toArray → w.grownBy w' (some g) → wpCan P ops Q k rest F (a.put o.dst undef) w') : wpCan P ops Q k (.op k 0 rest) F a w := by
  subst hp
  refine last hi (fun K hK => ?_)
  rw [if_pos hg]
  refine wp_store_mid ty x y ho g pre.length vs.toArray hx hy ?_ (by rw [List.size_toArray]; exact hs) (all_oneCell_toArray h1) (hK.out _ _ (h _ (Blk.setCells vs pre old post hb hl) (only_setCells _ _ _ _)))
  refine Blk.there hb _ _ ?_
  simp
  omega
end CanT
namespace Mc
open Go.RowKit Ba Sm
set_option linter.unusedVariables false
theorem readT_blk {w : World} {g : Nat} {t : TypeId} {l : List UInt8} (hb : Blk w g t (bvs l).toArray) : ReadT w t (some ⟨g, 0, none⟩) l := by
  intro _
  refine ⟨g, 0, _, rfl, hb, fun k hk => ?_⟩
  have := Blk.cell hb k
  rw [List.getElem?_toArray, bvs_get _ _ hk] at this
  simpa using this
theorem padN {k : List UInt8} {A : Option Addr} {n c : Nat} (x : UInt8) (xi : Int) (w : World) (hn : n = k.length) (hx : xi = (x.toNat : Int)) (hk : k.length ≤ 64) (hr : ReadB w w.heap.size A k) :
    Calls Tryd.prog 50 #[.slice A n c, .int .u8 xi] w fun e w' => ∃ g, e = .returned (.slice (some ⟨g, 0, none⟩) 64 64) ∧ w.heap.size ≤ g ∧ Blk w' g 5 (bvs (mpad k x)).toArray ∧ Below w.heap.size w w' := by
  subst hn hx
  exact pad_calls k A c hk x w hr
theorem writeN {w : World} {g n c : Nat} {l b : List UInt8} {A : Option Addr} (hn : n = b.length) (h : IsH w g l) (hg : 0 < g) (htab : Tab w) (hr : ReadT w 5 A b) (hbc : b.length ≤ c) (hcm : c ≤ 9223372036854775807) (hbl : b.length ≤ 140737488351232) (hsum : l.length + b.length ≤ 4611686018427387904) :
    Calls Tryd.prog 17 #[.pointer (some ⟨g, 0, none⟩), .slice A n c] w fun e w' => e = .returned (.tuple #[]) ∧ IsH w' g (l ++ b) ∧ w.grownBy w' (some g) := by
  subst hn
  exact writeT_calls w g l b A c h hg htab hr hbc hcm hbl hsum
/-- one part, laid into a row of parts -/
theorem of1 {W : World} {k : List UInt8} {A : Option Addr} {n c g : Nat} (hg : g = W.heap.size) (hn : n = k.length) (hr : ReadB W W.heap.size A k) (htab : Tab W) (hkc : k.length ≤ c) (hkc2 : c ≤ 9223372036854775807) (hkm : k.length ≤ 140737488351232) :
    Calls Tryd.prog 14 #[.slice (some ⟨g, 0, none⟩) 1 1] (W.alloc (.cells #[.slice A n c] 22)) fun e w' => e = .returned (.agg (bvs (sha k)).toArray) ∧ Below W.heap.size W w' := by
  subst hg hn
  have h := of_calls [k] (some ⟨W.heap.size, 0, none⟩) 1 (W.alloc (.cells #[.slice A k.length c] 22)) (by simpa using ReadBB.lit1 W 22 A k.length c k W.heap.size W.heap.size rfl (Nat.le_refl _) rfl hr hkc hkc2) (htab.below ((Below.refl _ _).alloc (Nat.le_refl _) _)) (by simp) (by omega) (by simpa using hkm) (by simp; omega)
  simp only [List.flatten_cons, List.flatten_nil, List.append_nil] at h
  refine h.mono fun e w' ⟨h1, h2⟩ => ⟨h1, ((Below.refl _ _).alloc (Nat.le_refl _) _).trans (h2.mono (by simp))⟩
theorem of2 {W : World} {k1 k2 : List UInt8} {A1 A2 : Option Addr} {n1 n2 c1 c2 g : Nat} (hg : g = W.heap.size) (hn1 : n1 = k1.length) (hn2 : n2 = k2.length) (hr1 : ReadB W W.heap.size A1 k1) (hr2 : ReadB W W.heap.size A2 k2) (htab : Tab W) (hc1 : k1.length ≤ c1) (hc2 : k2.length ≤ c2) (hcm1 : c1 ≤ 9223372036854775807) (hcm2 : c2 ≤ 9223372036854775807) (hk1 : k1.length ≤ 140737488351232) (hk2 : k2.length ≤ 140737488351232) :
    Calls Tryd.prog 14 #[.slice (some ⟨g, 0, none⟩) 2 2] (W.alloc (.cells #[.slice A1 n1 c1, .slice A2 n2 c2] 22)) fun e w' => e = .returned (.agg (bvs (sha (k1 ++ k2))).toArray) ∧ Below W.heap.size W w' := by
  subst hg hn1 hn2
  have h := of_calls [k1, k2] (some ⟨W.heap.size, 0, none⟩) 2 (W.alloc (.cells #[.slice A1 k1.length c1, .slice A2 k2.length c2] 22)) (by simpa using ReadBB.lit2 W 22 A1 A2 k1.length c1 k2.length c2 k1 k2 W.heap.size W.heap.size rfl (Nat.le_refl _) rfl rfl hr1 hr2 hc1 hc2 hcm1 hcm2) (htab.below ((Below.refl _ _).alloc (Nat.le_refl _) _)) (by simp) (by omega) (by simpa using ⟨hk1, hk2⟩) (by simp; omega)
  simp only [List.flatten_cons, List.flatten_nil, List.append_nil] at h
  refine h.mono fun e w' ⟨h1, h2⟩ => ⟨h1, ((Below.refl _ _).alloc (Nat.le_refl _) _).trans (h2.mono (by simp))⟩
/-- a store into a new block: what was there stays -/
theorem after_store {W w1 w2 : World} {o : Obj} {g : Nat} (hb : Below W.heap.size W w1) (hg : (w1.alloc o).grownBy w2 (some g)) (he : g = w1.heap.size) : Below W.heap.size W w2 ∧ w1.heap.size < w2.heap.size := by
  subst he
  exact hx_store hb hg
theorem grown_ne {w w' : World} {g h : Nat} {t : TypeId} {cs : Array Value} (hb : Blk w h t cs) (hg : w.grownBy w' (some g)) (hne : h ≠ g) : Blk w' h t cs := hb.grown hg (by simpa using hne)
end Mc
end Go.Proofs.YtlkcibhdnicpkaaDoor
/- A sum with a key, by the program: the walk of mac.Of. -/
namespace Go.Proofs.YtlkcibhdnicpkaaDoor
namespace Mc
open Go.RowKit Ba Sm
set_option linter.unusedVariables false
set_option maxRecDepth 100000 in
set_option maxHeartbeats 4000000 in
theorem mof_calls (k : List UInt8) (A : Option Addr) (c : Nat) (ps : List (List UInt8)) (Ap : Option Addr) (cp : Nat) (w : World) (hr : ReadB w w.heap.size A k) (h : ReadBB w w.heap.size Ap ps) (htab : Tab w) (hkc : k.length ≤ c) (hkc2 : c ≤ 9223372036854775807) (hkm : k.length ≤ 140737488351232)
    (hpc : ps.length ≤ cp) (hcm : cp ≤ 9223372036854775807) (hm : ∀ p ∈ ps, p.length ≤ 140737488351232) (hsum : ps.flatten.length ≤ 576460752303423487) :
    Calls Tryd.prog 28 #[.slice A k.length c, .slice Ap ps.length cp] w fun e w' => e = .returned (.agg (bvs (hmac k ps.flatten)).toArray) ∧ Below w.heap.size w w' := by
  have hKl : (mkey k).length ≤ 64 := by
    unfold mkey
    by_cases h0 : 64 < k.length
    · rw [if_pos h0, hash_len]; omega
    · rw [if_neg h0]; omega
  have hml := fun x => mpad_len (mkey k) x
  unfold hmac
  obtain ⟨K, hK⟩ : ∃ K, K = mkey k := ⟨_, rfl⟩
  rw [← hK] at hKl hml ⊢
  have Hr := Lib.hid hr
  have H := Lib.hid h
  have Htab := Lib.hid htab
  have Hm := Lib.hid hm
  have HKl := Lib.hid hKl
  have h54 := hml 0x36
  have h92 := hml 0x5c
  obtain ⟨P, hP⟩ : ∃ P, P = mpad K 0x36 := ⟨_, rfl⟩
  obtain ⟨R, hR⟩ : ∃ R, R = mpad K 0x5c := ⟨_, rfl⟩
  rw [← hP] at h54
  rw [← hR] at h92
  rw [← hP, ← hR]
  have HP := Lib.hid hP
  have HR := Lib.hid hR
  have H54 := Lib.hid h54
  have H92 := Lib.hid h92
  have Hsum := Lib.hid hsum
  clear hr h htab hm hKl hml hP hR h54 h92 hsum
  have hs0 : ∀ o, (w.alloc o).heap.size = w.heap.size + 1 := fun o => by simp
  by_cases h64 : 64 < k.length
  focus
      have hKk : K = sha k := by rw [hK, mkey, if_pos h64]
      have hl32 : 32 = K.length := by rw [hKk, hash_len]
      rw [hKk] at hl32
      have HKk := Lib.hid hKk
      have Hl32 := Lib.hid hl32
      clear hK hKk hl32
      go_enter Tryd.func28, Tryd.ntmps28
      go_wp2_with fail
      refine Calls.mono (of1 (W := w.alloc _) (k := k) (by simp) rfl (Hr.out.alloc (Nat.le_refl _) _ |>.more (by simp)) (Htab.out.below ((Below.refl _ _).alloc (Nat.le_refl _) _)) hkc hkc2 hkm) ?_
      rintro e w1 ⟨rfl, hb1⟩
      rw [hs0] at hb1
      have Hb1 := Lib.hid (((Below.refl _ _).alloc (Nat.le_refl _) _).trans (hb1.mono (Nat.le_succ _)))
      have HZ1 : Hid (Blk w1 w.heap.size 26 (bvs (List.replicate 32 0)).toArray) := Lib.hid (Blk.below (by rw [bvs_rep32]; exact heap_alloc_new _ _) hb1 (by omega))
      rw [← HKk.out]
      clear hb1
      go_wp2_with (refine wpList_store_blk rfl 26 (.tmp 5) (.tmp 15) rfl w1.heap.size 0 26 [] (bvs (List.replicate 32 0)) [] (bvs K) rfl rfl (by rw [bvs_rep32]; exact heap_alloc_new _ _) rfl (by rw [bvs_length, bvs_length, HKk.out, ← Hl32.out]; rfl) (by rw [bvs_length, HKk.out, ← Hl32.out]; kernel_rfl) (bvs_one _) ?_; intro w2 hX2 hg2)
      have hk2 := after_store Hb1.out hg2 rfl
      have hZ2 := grown_ne (HZ1.out.alloc _) hg2 (Nat.ne_of_lt HZ1.out.lt)
      have hr2 : ReadB w2 w2.heap.size (some ⟨w1.heap.size, 0, none⟩) K := readB_of (by simpa using hX2)
      have hn : 32 = K.length := by rw [HKk.out]; exact Hl32.out
      have hc : K.length ≤ 32 := by omega
      clear hX2 hg2 HZ1
      refine (new_calls _).mono ?_
      rintro e w3 ⟨g, rfl, hg1, hI, hb3⟩
      have hg0 : w.heap.size < g := by have := hk2.1.size; have := hk2.2; have := Hb1.out.size; omega
      have HZ := Lib.hid (hZ2.below hb3 (by have := hZ2.lt; omega))
      have HB := Lib.hid (hk2.1.trans (hb3.mono hk2.1.size))
      have HRK := Lib.hid ((hr2.below hb3).more hg1)
      have HI := Lib.hid hI
      have HN := Lib.hid hn
      have Hc := Lib.hid hc
      clear hk2 hZ2 hr2 hn hb3 hI hg1 hc Hb1
      generalize w1.heap.size = gk at *
  rotate_left
  focus
      have hkk : K = k := by rw [hK, mkey, if_neg h64]
      have hn : k.length = K.length := by rw [hkk]
      rw [← hkk] at Hr
      clear hK hkk
      go_enter Tryd.func28, Tryd.ntmps28
      go_wp2_with fail
      refine (new_calls _).mono ?_
      rintro e w3 ⟨g, rfl, hg1, hI, hb3⟩
      rw [hs0] at hg1 hb3
      have hg0 : w.heap.size < g := by omega
      have HZ : Hid (Blk w3 w.heap.size 26 (bvs (List.replicate 32 0)).toArray) := Lib.hid (Blk.below (by rw [bvs_rep32]; exact heap_alloc_new _ _) hb3 (by omega))
      have HB := Lib.hid (((Below.refl _ _).alloc (Nat.le_refl _) _).trans (hb3.mono (Nat.le_succ _)))
      have HRK := Lib.hid ((Hr.out.below HB.out).more (Nat.le_of_lt hg0))
      have HI := Lib.hid hI
      have Hc := Lib.hid (show K.length ≤ c by omega)
      have HN := Lib.hid hn
      clear hn hb3 hI hg1
  all_goals
    have htab3 := Htab.out.below HB.out
    have Htab3 := Lib.hid htab3
    clear htab3
    go_wp2_with fail
    refine (padN (k := K) 0x36 _ w3 HN.out (by rfl) HKl.out (HRK.out.more (Nat.le_of_lt HI.out.lt))).mono ?_
    rintro e w4 ⟨g4, rfl, hg4, hP4, hb4⟩
    rw [← HP.out] at hP4
    have HI4 := Lib.hid (IsG.below HI.out hb4)
    have HP4 := Lib.hid (readT_blk hP4)
    have HZ4 := Lib.hid (HZ.out.below hb4 HZ.out.lt)
    have HB4 := Lib.hid (HB.out.trans (hb4.mono HB.out.size))
    have HRK4 := Lib.hid (HRK.out.below (hb4.mono (Nat.le_of_lt HI.out.lt)))
    have Htab4 := Lib.hid (Htab3.out.below hb4)
    clear hP4 hb4 hg4 HI HZ HRK Htab3 HB
    have hgp : 0 < g := by omega
    go_wp2_with fail
    refine (writeN (b := P) (l := []) (by rw [H54.out]) HI4.out hgp Htab4.out HP4.out (by rw [H54.out]; omega) (by omega) (by rw [H54.out]; omega) (by rw [H54.out]; simp)).mono ?_
    rintro e w5 ⟨rfl, hI5, hg5⟩
    rw [List.nil_append] at hI5
    have HI5 := Lib.hid hI5
    have HZ5 := Lib.hid (grown_ne HZ4.out hg5 (by omega))
    have HB5 := Lib.hid (HB4.out.trans (below_of_only hg5 (by omega) HB4.out.size))
    have HRK5 := Lib.hid (HRK4.out.only hg5 (Nat.le_refl _) (Nat.le_of_lt HI4.out.lt))
    have Htab5 := Lib.hid (Htab4.out.grown hg5 hgp)
    clear hI5 hg5 HI4 HZ4 HB4 HRK4 Htab4 HP4
    go_wp2_with fail
    go_loopw [8, 24] (fun _ i wr => ∃ j : Nat, j ≤ ps.length ∧ i = .int .i64 j ∧ IsH wr g (P ++ (ps.take j).flatten) ∧ w5.grownBy wr (some g)) (fun _ i _ => ps.length - (intOf i).toNat)
    case atStart => exact ⟨0, Nat.zero_le _, rfl, by simpa using HI5.out, World.grownBy.refl w5 _⟩
    case round =>
      obtain ⟨j, hj, rfl, hI, hgw⟩ := hrel
      have hbr : Below w.heap.size w wr := HB5.out.trans (below_of_only hgw (by omega) HB5.out.size)
      by_cases hjl : j < ps.length
      · obtain ⟨b, o, rfl, hb, hcs⟩ := H.out (by omega)
        obtain ⟨Ak, ck, q1, q2, q3, q4⟩ := hcs j hjl
        have hq1 := (hbr.cell (p := ⟨b, o + j, none⟩) hb).trans q1
        have hft := flat_take ps j hjl
        have hfl := flat_le ps (j + 1)
        rw [hft, List.length_append] at hfl
        have hlk : (ps.getD j []).length ≤ 140737488351232 := Hm.out _ (by simp [List.getD, hjl])
        have hq4 := q4.below hbr
        have hs5 := Hsum.out
        have Hft := Lib.hid hft
        generalize ps.getD j [] = pk at *
        have HI := Lib.hid hI
        have Hgw := Lib.hid hgw
        have Hbr := Lib.hid hbr
        have Hq4 := Lib.hid hq4
        have Htr := Lib.hid (Htab5.out.grown hgw hgp)
        have hle : (P ++ (ps.take j).flatten).length + pk.length ≤ 4611686018427387904 := by rw [List.length_append, H54.out]; omega
        clear hI hgw hbr hcs q1 q4 hq4 hft hs5
        go_wp2_with fail
        refine (write_calls wr g w.heap.size _ pk Ak ck HI.out hgp Htr.out Hq4.out (by omega) q2 q3 hlk hle).mono ?_
        rintro e w6 ⟨rfl, hI6, hg6⟩
        have HI6 := Lib.hid hI6
        have Hg6 := Lib.hid (only_trans Hgw.out hg6)
        clear hI6 hg6
        go_wp2
        go_roundw
        case rel => exact ⟨j + 1, by omega, by go_num, by rw [Hft.out, ← List.append_assoc]; exact HI6.out, Hg6.out⟩
        case measure => simp [intOf]; omega
      · have hjj : j = ps.length := by omega
        rw [hjj, List.take_length] at hI
        have Htr := Lib.hid (Htab5.out.grown hgw hgp)
        have HI := Lib.hid hI
        have HZr := Lib.hid (grown_ne HZ5.out hgw (by omega))
        have Hbr := Lib.hid hbr
        have HRr := Lib.hid (HRK5.out.only hgw (Nat.le_refl _) (Nat.le_of_lt HI5.out.lt))
        have hle : (P ++ ps.flatten).length ≤ 1152921504606846975 := by rw [List.length_append, H54.out]; have := Hsum.out; omega
        clear hI hgw hbr hjj hj
        go_wp2_with fail
        refine (sum_calls wr g _ HI.out hgp Htr.out hle).mono ?_
        rintro e w6 ⟨rfl, hb6⟩
        obtain ⟨D, hD⟩ : ∃ D, D = sha (P ++ ps.flatten) := ⟨_, rfl⟩
        have hD32 : D.length = 32 := by rw [hD]; exact hash_len _
        rw [← hD]
        have HD := Lib.hid hD
        have HD32 := Lib.hid hD32
        have HZ6 := Lib.hid (HZr.out.below hb6 HZr.out.lt)
        have HB6 := Lib.hid (Hbr.out.trans (hb6.mono Hbr.out.size))
        have HR6 := Lib.hid (HRr.out.below (hb6.mono (Nat.le_of_lt HI.out.lt)))
        have Htab6 := Lib.hid (Htr.out.below hb6)
        have Hg6 := Lib.hid (Nat.lt_of_lt_of_le HI.out.lt hb6.size)
        clear hb6 HZr Hbr HRr Htr hD hD32 HI
        go_wp2_with (refine wpList_store_blk rfl 26 (.tmp 9) (.tmp 33) rfl w6.heap.size 0 26 [] (bvs (List.replicate 32 0)) [] (bvs D) rfl rfl (by rw [bvs_rep32]; exact heap_alloc_new _ _) rfl (by rw [bvs_length, bvs_length, HD32.out]; rfl) (by rw [bvs_length, HD32.out]; kernel_rfl) (bvs_one _) ?_; intro w7 hX7 hg7)
        have hk7 := after_store HB6.out hg7 rfl
        have HZ7 := Lib.hid (grown_ne (HZ6.out.alloc _) hg7 (Nat.ne_of_lt HZ6.out.lt))
        have HD7 := Lib.hid (show ReadB w7 w7.heap.size (some ⟨w6.heap.size, 0, none⟩) D from readB_of (by simpa using hX7))
        have HB7 := Lib.hid hk7.1
        have hb67 : Below w6.heap.size w6 w7 := only_after ((Below.refl _ _).alloc (Nat.le_refl _) _) hg7 (Nat.le_refl _)
        have HR7 := Lib.hid (HR6.out.below (hb67.mono (Nat.le_of_lt Hg6.out)))
        have Htab7 := Lib.hid (Htab6.out.below hb67)
        have Hg7 := Lib.hid (Nat.lt_of_lt_of_le Hg6.out hb67.size)
        clear hX7 hg7 hk7 hb67 HZ6 HB6 HR6 Htab6 Hg6
        generalize w6.heap.size = gd at *
        refine CanT.region (fun _ => True) 5 (.op 0 2 (.op 2 2 (.op 1 0 (.op 3 0 (.op 4 0 (.op 5 0 (.nil))))))) (by kernel_rfl) (by kernel_rfl) trivial ?_
        have HZd : Hid (Blk w7.drew w.heap.size 26 (bvs (List.replicate 32 0)).toArray) := HZ7
        have HDd : Hid (ReadB w7.drew w7.drew.heap.size (some ⟨gd, 0, none⟩) D) := HD7
        have HBd := Lib.hid HB7.out.drew
        have HRd := Lib.hid (HR7.out.drew)
        have Htd : Hid (Tab w7.drew) := Lib.hid ⟨Htab7.out.1, Htab7.out.2⟩
        have Hgd : Hid (g < w7.drew.heap.size) := Hg7
        clear HZ7 HD7 HB7 HR7 Htab7 Hg7
        generalize w7.drew = W7 at *
        repeat (first | (refine CanT.skip rfl ?_ (fun K hK => ?_); (focus (go_simp; done)); go_simp; refine hK _ ?_; clear hK K) | (refine CanT.pur rfl ?_ ?_; (focus (go_simp; done)); refine ⟨?_, ?_, ?_⟩; rotate_left; (focus (intro w'; go_simp; rfl)); (focus (intro K hK; go_simp; refine hK _ ?_; clear hK K))) | (refine CanT.held rfl ?_ ?_; (focus (go_simp; done)); refine ⟨?_, ?_, ?_⟩; rotate_left; (focus (intro w' hS'; (try dsimp only at hS'); go_simp; rfl)); (focus (intro K hK; go_simp; refine hK _ ?_; clear hK K))) | (refine CanT.last rfl (fun K hK => ?_); go_simp; refine hK.out _ _ ?_; clear hK K))
        refine CanT.imp rfl (fun J hJ => ?_)
        go_simp
        refine (padN (k := K) 0x5c _ W7 HN.out (by rfl) HKl.out (HRd.out.more (Nat.le_of_lt Hgd.out))).mono ?_
        rintro e w8 ⟨g8, rfl, hg8, hP8, hb8⟩
        rw [← HR.out] at hP8
        have HP8 := Lib.hid (readB_of hP8)
        have HZ8 := Lib.hid (HZd.out.below hb8 HZd.out.lt)
        have HD8 := Lib.hid ((HDd.out.below hb8).more hb8.size)
        have HB8 := Lib.hid (HBd.out.trans (hb8.mono HBd.out.size))
        have Ht8 := Lib.hid (Htd.out.below hb8)
        clear hP8 hb8 hg8
        go_simp
        refine hJ.out _ _ trivial ?_
        clear hJ J
        refine CanT.imp rfl (fun J hJ => ?_)
        go_simp
        refine hJ.out _ _ trivial ?_
        clear hJ J
        refine CanT.imp rfl (fun J hJ => ?_)
        go_simp
        refine (of2 (W := w8) (k1 := R) (k2 := D) (by rfl) (by rw [H92.out]) (by rw [HD32.out]) HP8.out HD8.out Ht8.out (by rw [H92.out]; omega) (by rw [HD32.out]; omega) (by omega) (by omega) (by rw [H92.out]; omega) (by rw [HD32.out]; omega)).mono ?_
        rw [HD.out]
        rintro e w9 ⟨rfl, hb9⟩
        obtain ⟨E, hE⟩ : ∃ E, E = sha (R ++ sha (P ++ ps.flatten)) := ⟨_, rfl⟩
        have hE32 : E.length = 32 := by rw [hE]; exact hash_len _
        rw [← hE]
        have HE := Lib.hid hE
        have HE32 := Lib.hid hE32
        have HZ9 := Lib.hid (HZ8.out.below hb9 HZ8.out.lt)
        have HB9 := Lib.hid (HB8.out.trans (hb9.mono HB8.out.size))
        clear hb9 hE hE32 HZ8 HB8 HP8 HD8 Ht8
        go_simp
        refine hJ.out _ _ trivial ?_
        clear hJ J
        refine CanT.lastR rfl ?_ 26 (.tmp 4) (.tmp 38) rfl w.heap.size 0 26 [] (bvs (List.replicate 32 0)) [] (bvs E) rfl rfl (by simpa using HZ9.out) rfl (by rw [bvs_length, bvs_length, HE32.out]; rfl) (by rw [bvs_length, HE32.out]; kernel_rfl) (bvs_one _) ?_
        focus go_simp
        intro w10 hX10 hg10
        refine CanT.done ?_
        go_wp2
        refine bodyPost_ret (results_cell_row (p := 4) (ty := 26) (by kernel_rfl) _ w10 w.heap.size 26 (bvs E).toArray (0, 0) _ rfl (by simp only [List.nil_append, List.append_nil] at hX10; exact hX10) Tryd.underlying26 rfl (by rw [List.size_toArray, bvs_length, HE32.out]; kernel_rfl)) rfl ⟨by rw [HE.out], HB9.out.trans (below_of_only hg10 (Nat.le_refl _) HB9.out.size)⟩
end Mc
end Go.Proofs.YtlkcibhdnicpkaaDoor

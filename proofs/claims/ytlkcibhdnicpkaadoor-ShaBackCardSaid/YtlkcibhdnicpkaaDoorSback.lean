/- A sum's digits are read as it was; a text that is read is its digits; of two sums the lesser one's digits are ahead: the plain words and the walk of the statement. -/
import Derived.Test.YtlkcibhdnicpkaaDoorShexes
namespace Go.Proofs.YtlkcibhdnicpkaaDoor
namespace Hx
open Go.RowKit Ba Sm
set_option linter.unusedVariables false
theorem hexd_cons (x : UInt8) (l : List UInt8) : hexd (x :: l) = hi x :: lo x :: hexd l := rfl
theorem hexd_get : ∀ (a : List UInt8) (j : Nat), j < a.length → (hexd a).getD (2 * j) 0 = hi (a.getD j 0) ∧ (hexd a).getD (2 * j + 1) 0 = lo (a.getD j 0)
  | [], j, h => absurd h (by simp)
  | x :: l, 0, _ => ⟨rfl, rfl⟩
  | x :: l, j + 1, h => by
    have ih := hexd_get l j (by simpa using h)
    rw [hexd_cons, show 2 * (j + 1) = 2 * j + 1 + 1 by omega]
    simpa using ih
theorem dix_hi (c : UInt8) : dix (hi c) = c.toNat / 16 := dg_dix ⟨c.toNat / 16, by have := c.toNat_lt; omega⟩
theorem dix_lo (c : UInt8) : dix (lo c) = c.toNat % 16 := dg_dix ⟨c.toNat % 16, by omega⟩
theorem list_get_ext {l m : List UInt8} {n : Nat} (hl : l.length = n) (hm : m.length = n) (h : ∀ k, k < n → l.getD k 0 = m.getD k 0) : l = m := by
  apply List.ext_getElem (by omega)
  intro k h1 h2
  have := h k (by omega)
  simpa [List.getD, List.getElem?_eq_getElem h1, List.getElem?_eq_getElem h2] using this
theorem parse_hexd (a : List UInt8) (ha : a.length = 32) : parse (hexd a) = (a, 0) := by
  have hg : good (hexd a) := by
    refine ⟨by rw [hexd_len, ha], fun k hk => ?_⟩
    unfold dw
    have h := hexd_get a (k / 2) (by omega)
    rcases Nat.mod_two_eq_zero_or_one k with e | e
    · rw [show k = 2 * (k / 2) by omega, h.1, dix_hi]; have := (a.getD (k / 2) 0).toNat_lt; omega
    · rw [show k = 2 * (k / 2) + 1 by omega, h.2, dix_lo]; omega
  unfold parse
  rw [if_pos hg]
  congr 1
  refine list_get_ext (n := 32) (by simp [pairs]) ha fun k hk => ?_
  have h := hexd_get a k (by omega)
  have e : (pairs (hexd a)).getD k 0 = full (hexd a) k := by simp [pairs, List.getD, List.getElem?_map, List.getElem?_range hk]
  rw [e]
  unfold full dw
  rw [h.1, h.2, dix_hi, dix_lo]
  have := (a.getD k 0).toNat_lt
  apply UInt8.toNat_inj.1
  rw [UInt8.toNat_ofNat']
  omega
theorem hexd_parse (s : List UInt8) (hn : (parse s).2 = 0) : hexd (parse s).1 = s := by
  by_cases hg : good s
  · unfold parse
    rw [if_pos hg]
    show hexd (pairs s) = s
    have hp : (pairs s).length = 32 := by simp [pairs]
    refine list_get_ext (n := 64) (by rw [hexd_len, hp]) hg.1 fun k hk => ?_
    have h := hexd_get (pairs s) (k / 2) (by omega)
    have e : (pairs s).getD (k / 2) 0 = full s (k / 2) := by simp [pairs, List.getD, List.getElem?_map, List.getElem?_range (show k / 2 < 32 by omega)]
    rw [e] at h
    have d1 := hg.2 (2 * (k / 2)) (by omega)
    have d2 := hg.2 (2 * (k / 2) + 1) (by omega)
    have f : (full s (k / 2)).toNat = 16 * dw s (2 * (k / 2)) + dw s (2 * (k / 2) + 1) := by unfold full; rw [UInt8.toNat_ofNat']; omega
    rcases Nat.mod_two_eq_zero_or_one k with e | e
    · have ek : k = 2 * (k / 2) := by omega
      rw [ek, h.1]
      unfold hi
      rw [f, show (16 * dw s (2 * (k / 2)) + dw s (2 * (k / 2) + 1)) / 16 = dw s (2 * (k / 2)) by omega]
      exact dix_dg _ d1
    · have ek : k = 2 * (k / 2) + 1 := by omega
      rw [ek, h.2]
      unfold lo
      rw [f, show (16 * dw s (2 * (k / 2)) + dw s (2 * (k / 2) + 1)) % 16 = dw s (2 * (k / 2) + 1) by omega]
      exact dix_dg _ d2
  · unfold parse at hn
    rw [if_neg hg] at hn
    cases hn
theorem dg_lt : ∀ m n : Fin 16, (dg.getD m.val 0 < dg.getD n.val 0) ↔ m.val < n.val := by decide +kernel
theorem dg_eq : ∀ m n : Fin 16, (dg.getD m.val 0 = dg.getD n.val 0) ↔ m.val = n.val := by decide +kernel
theorem lt_hexd : ∀ a b : List UInt8, lt (hexd a) (hexd b) = lt a b
  | _, [] => by simp [lt, hexd, Op.bytesLess]
  | [], y :: b => by simp [lt, hexd, Op.bytesLess]
  | x :: a, y :: b => by
    have ih := lt_hexd a b
    unfold lt at *
    rw [hexd_cons, hexd_cons]
    simp only [Op.bytesLess, ih]
    have bx := x.toNat_lt
    have by_ := y.toNat_lt
    have h1 := dg_lt ⟨x.toNat / 16, by omega⟩ ⟨y.toNat / 16, by omega⟩
    have h2 := dg_eq ⟨x.toNat / 16, by omega⟩ ⟨y.toNat / 16, by omega⟩
    have h3 := dg_lt ⟨x.toNat % 16, by omega⟩ ⟨y.toNat % 16, by omega⟩
    have h4 := dg_eq ⟨x.toNat % 16, by omega⟩ ⟨y.toNat % 16, by omega⟩
    change (hi x < hi y) ↔ _ at h1
    change (hi x = hi y) ↔ _ at h2
    change (lo x < lo y) ↔ _ at h3
    change (lo x = lo y) ↔ _ at h4
    simp only at h1 h2 h3 h4
    have hxy : x < y ↔ x.toNat < y.toNat := UInt8.lt_iff_toNat_lt
    have hee : x = y ↔ x.toNat = y.toNat := UInt8.toNat_inj.symm
    generalize Op.bytesLess a b = r
    rw [Bool.eq_iff_iff]
    simp only [Bool.or_eq_true, Bool.and_eq_true, decide_eq_true_eq, beq_iff_eq, h1, h2, h3, h4, hxy, hee]
    cases r <;> simp <;> omega
end Hx
namespace Sk
open Go.RowKit Ba Sm Hx
set_option linter.unusedVariables false
set_option maxRecDepth 100000 in
set_option maxHeartbeats 4000000 in
theorem shaBack_calls (a b s : List UInt8) (ha : a.length = 32) (hb : b.length = 32) (w : World) (htab : Tab w) :
    Calls Tryd.prog 7 #[.agg (bvs a).toArray, .agg (bvs b).toArray, .string (S s)] w fun e w' => e = .returned (.bool true) ∧ Below w.heap.size w w' := by
  have Hw := Lib.hid awake_calls
  have Htab := Lib.hid htab
  clear htab
  obtain ⟨hbw, hA, hB⟩ := two_start (w := w) (C1 := (bvs a).toArray) (C2 := (bvs b).toArray) (t1 := 26) (t2 := 26)
  have hyl := parse_len s
  have Hh := Lib.hid (hex_calls a ha)
  have Hg := Lib.hid (hex_calls b hb)
  have Hy := Lib.hid (hex_calls (parse s).1 hyl)
  have Hl := Lib.hid (less_calls a b ha hb)
  have hpa : ∀ w, Calls Tryd.prog 21 #[.string (S (hexd a))] w fun e w' => e = .returned (.tuple #[.agg (bvs a).toArray, .int .i64 0]) ∧ Below w.heap.size w w' := fun w => by
    have := parse_calls (hexd a) w
    rw [parse_hexd a ha] at this
    exact this
  have Hpa := Lib.hid hpa
  have Hp := Lib.hid (parse_calls s)
  have heq : ∀ w', (binOp .eql 26 (.agg (bvs a).toArray) (.agg (bvs a).toArray)).run Tryd.prog w' = .ok (.bool true) w' := fun w' => by rw [run_eqB _ _ ha ha w', beq_self_eq_true]
  have hone := bvs_one (parse s).1
  have hona := bvs_one a
  have Lca : Hid ((bvs a).length = 32) := Lib.hid (by rw [bvs_length, ha])
  have Lcb : Hid ((bvs b).length = 32) := Lib.hid (by rw [bvs_length, hb])
  have Lcy : Hid ((bvs (parse s).1).length = 32) := Lib.hid (by rw [bvs_length, hyl])
  have hz : (S s).size = s.length := S_size s
  have hls : Op.bytesLess (S (hexd a)).toList (S (hexd b)).toList = lt a b := by rw [S_toList, S_toList]; exact lt_hexd a b
  have hys : (parse s).2 = 0 → S (hexd (parse s).1) = S s := fun h => by rw [hexd_parse s h]
  have Hys := Lib.hid hys
  clear hys hpa hyl ha hb
  generalize S (hexd (parse s).1) = hsy at *
  generalize S (hexd a) = hsa at *
  generalize S (hexd b) = hsb at *
  generalize lt a b = lb at *
  generalize (parse s).2 = ny at *
  generalize bvs (parse s).1 = cy at *
  generalize bvs a = ca at *
  generalize bvs b = cb at *
  generalize S s = ss at *
  have Hone := Lib.hid hone
  have Hona := Lib.hid hona
  clear hone hona
  by_cases h200 : 200 < s.length
  · have Hbw := Lib.hid hbw
    clear hbw hA hB
    go_enter Tryd.func7, Tryd.ntmps7
    go_wp2_with (go_at_call 13; refine Calls.mono (Hw.out _ (Htab.out.below Hbw.out)) ?_; rintro e w5 ⟨rfl, hb5⟩)
    go_ret
    exact ⟨rfl, Hbw.out.trans (hb5.mono Hbw.out.size)⟩
  · have HAB := Lib.hid (And.intro hA hB)
    have Hbw := Lib.hid hbw
    clear hbw hA hB
    go_enter Tryd.func7, Tryd.ntmps7
    go_wp2_with (first
      | (refine wpList_load_blk rfl 26 (.tmp 3) rfl w.heap.size 0 26 [] ca [] rfl (by simpa using HAB.out.1) rfl _ Tryd.underlying26 rfl (by rw [Lca.out]; kernel_rfl) ?_)
      | (go_at_call 23; refine (Hh.out _).mono ?_; rintro e w0 ⟨rfl, hb0⟩; have Hb0 := Lib.hid hb0; clear hb0)
      | (go_at_call 21; refine (Hpa.out _).mono ?_; rintro e w1 ⟨rfl, hb1⟩; have Hb1 := Lib.hid (Hb0.out.trans (hb1.mono Hb0.out.size)); clear hb1 Hpa)
      | (go_at_call 21; refine (Hp.out _).mono ?_; rintro e w3 ⟨rfl, hb3⟩; have Hb3 := Lib.hid hb3; clear hb3)
      | (refine wpList_store_blk rfl 26 (.tmp 7) (.tmp 19) rfl w1.heap.size 0 26 [] (bvs (List.replicate 32 0)) [] ca rfl rfl (by rw [rep32]; exact heap_alloc_new _ _) rfl (by rw [bvs_length, Lca.out]; rfl) (by rw [Lca.out]; kernel_rfl) Hona.out ?_; intro w2 hX2 hg2)
      | (refine wpList_store_blk rfl 26 (.tmp 9) (.tmp 24) rfl w3.heap.size 0 26 [] (bvs (List.replicate 32 0)) [] cy rfl rfl (by rw [rep32]; exact heap_alloc_new _ _) rfl (by rw [bvs_length, Lcy.out]; rfl) (by rw [Lcy.out]; kernel_rfl) Hone.out ?_; intro w4 hY4 hg4))
    have hk2 := kept_store Hb1.out hg2
    have hk4 := kept_store Hb3.out hg4
    have hA2 := HAB.out.1.below hk2.1 (by simp; omega)
    have hB2 := HAB.out.2.below hk2.1 (by simp)
    have hX2' : Blk w2 w1.heap.size 26 ca.toArray := by simpa using hX2
    have hY4' : Blk w4 w3.heap.size 26 cy.toArray := by simpa using hY4
    have hF := And.intro (hA2.below hk4.1 hA2.lt) (And.intro (hB2.below hk4.1 hB2.lt) (And.intro (hX2'.below hk4.1 hX2'.lt) hY4'))
    have hbw4 : Below w.heap.size w w4 := (Hbw.out.trans (hk2.1.mono Hbw.out.size)).trans (hk4.1.mono (Nat.le_trans Hbw.out.size hk2.1.size))
    clear hX2 hY4 hX2' hY4' hA2 hB2 hg2 hg4 Hb1 Hb3 HAB Hbw hk2 hk4 Hp
    generalize w1.heap.size = gx at *
    generalize w3.heap.size = gy at *
    have HF : Hid (Blk w4.drew w.heap.size 26 ca.toArray ∧ Blk w4.drew (w.heap.size + 1) 26 cb.toArray ∧ Blk w4.drew gx 26 ca.toArray ∧ Blk w4.drew gy 26 cy.toArray) := Lib.hid hF
    have Hbw := Lib.hid hbw4.drew
    clear hF hbw4
    go_wp2_with fail
    refine CanT.region (fun w' => Blk w' w.heap.size 26 ca.toArray ∧ Blk w' (w.heap.size + 1) 26 cb.toArray ∧ Blk w' gx 26 ca.toArray ∧ Blk w' gy 26 cy.toArray) 1000 (.op 0 1 (.op 1 1 (.op 2 2 (.op 3 2 (.op 4 2 (.op 5 2 (.op 6 2 (.op 7 2 (.op 8 2 (.op 9 2 (.op 10 2 (.op 11 1 (.op 13 2 (.op 12 0 (.op 14 2 (.op 15 2 (.op 16 2 (.op 17 2 (.op 18 1 (.op 19 1 (.op 21 1 (.op 23 1 (.op 20 0 (.op 22 0 (.op 24 0 (.op 25 2 (.op 26 2 (.op 27 2 (.op 28 2 (.op 29 0 (.op 30 2 (.op 31 2 (.nil))))))))))))))))))))))))))))))))) (by kernel_rfl) (by kernel_rfl) HF.out ?_
    generalize w4.drew = W at *
    by_cases hn0 : ny = 0
    · have hy2 := Hys.out hn0
      have t1 : ((ny : Int) == 0) = true := by rw [hn0]; rfl
      have t2 : ((ny : Int) != 0) = false := by rw [bne, t1]; rfl
      rw [hy2] at Hy
      clear hn0 hy2 Hys
      repeat (first | (refine CanT.heldR rfl ?_ 26 (.tmp 3) rfl w.heap.size 0 ca rfl (fun w' h => Blk.range [] ca [] (by simpa using h.1)) _ Tryd.underlying26 rfl (by rw [Lca.out]; kernel_rfl) (fun K hK => ?_); (focus (go_simp; done)); go_simp; refine hK _ ?_; clear hK K) | (refine CanT.heldR rfl ?_ 26 (.tmp 4) rfl (w.heap.size + 1) 0 cb rfl (fun w' h => Blk.range [] cb [] (by simpa using h.2.1)) _ Tryd.underlying26 rfl (by rw [Lcb.out]; kernel_rfl) (fun K hK => ?_); (focus (go_simp; done)); go_simp; refine hK _ ?_; clear hK K) | (refine CanT.heldR rfl ?_ 26 (.tmp 7) rfl gx 0 ca rfl (fun w' h => Blk.range [] ca [] (by simpa using h.2.2.1)) _ Tryd.underlying26 rfl (by rw [Lca.out]; kernel_rfl) (fun K hK => ?_); (focus (go_simp; done)); go_simp; refine hK _ ?_; clear hK K) | (refine CanT.heldR rfl ?_ 26 (.tmp 9) rfl gy 0 cy rfl (fun w' h => Blk.range [] cy [] (by simpa using h.2.2.2)) _ Tryd.underlying26 rfl (by rw [Lcy.out]; kernel_rfl) (fun K hK => ?_); (focus (go_simp; done)); go_simp; refine hK _ ?_; clear hK K) | (refine CanT.skip rfl ?_ (fun K hK => ?_); (focus (go_simp; done)); go_simp; refine hK _ ?_; clear hK K) | (refine CanT.pur rfl ?_ ?_; (focus (go_simp; done)); refine ⟨?_, ?_, ?_⟩; rotate_left; (focus (intro w'; go_simp; rfl)); (focus (intro K hK; go_simp; refine hK _ ?_; clear hK K))) | (refine CanT.held rfl ?_ ?_; (focus (go_simp; done)); refine ⟨?_, ?_, ?_⟩; rotate_left; (focus (intro w' hS'; (try dsimp only at hS'); go_simp; rfl)); (focus (intro K hK; go_simp; refine hK _ ?_; clear hK K))) | (refine CanT.last rfl (fun K hK => ?_); go_simp; refine hK.out _ _ ?_; clear hK K))
      refine CanT.imp rfl (fun K hK => ?_)
      go_simp
      refine Calls.mono (Hy.out _) ?_
      rintro e u1 ⟨rfl, hb1⟩
      have HF1 := Lib.hid (four HF.out hb1)
      have Hbw1 := Lib.hid (Hbw.out.trans (hb1.mono Hbw.out.size))
      clear hb1
      go_simp
      refine hK.out _ _ HF1.out ?_
      clear hK K
      repeat (first | (refine CanT.heldR rfl ?_ 26 (.tmp 3) rfl w.heap.size 0 ca rfl (fun w' h => Blk.range [] ca [] (by simpa using h.1)) _ Tryd.underlying26 rfl (by rw [Lca.out]; kernel_rfl) (fun K hK => ?_); (focus (go_simp; done)); go_simp; refine hK _ ?_; clear hK K) | (refine CanT.heldR rfl ?_ 26 (.tmp 4) rfl (w.heap.size + 1) 0 cb rfl (fun w' h => Blk.range [] cb [] (by simpa using h.2.1)) _ Tryd.underlying26 rfl (by rw [Lcb.out]; kernel_rfl) (fun K hK => ?_); (focus (go_simp; done)); go_simp; refine hK _ ?_; clear hK K) | (refine CanT.heldR rfl ?_ 26 (.tmp 7) rfl gx 0 ca rfl (fun w' h => Blk.range [] ca [] (by simpa using h.2.2.1)) _ Tryd.underlying26 rfl (by rw [Lca.out]; kernel_rfl) (fun K hK => ?_); (focus (go_simp; done)); go_simp; refine hK _ ?_; clear hK K) | (refine CanT.heldR rfl ?_ 26 (.tmp 9) rfl gy 0 cy rfl (fun w' h => Blk.range [] cy [] (by simpa using h.2.2.2)) _ Tryd.underlying26 rfl (by rw [Lcy.out]; kernel_rfl) (fun K hK => ?_); (focus (go_simp; done)); go_simp; refine hK _ ?_; clear hK K) | (refine CanT.skip rfl ?_ (fun K hK => ?_); (focus (go_simp; done)); go_simp; refine hK _ ?_; clear hK K) | (refine CanT.pur rfl ?_ ?_; (focus (go_simp; done)); refine ⟨?_, ?_, ?_⟩; rotate_left; (focus (intro w'; go_simp; rfl)); (focus (intro K hK; go_simp; refine hK _ ?_; clear hK K))) | (refine CanT.held rfl ?_ ?_; (focus (go_simp; done)); refine ⟨?_, ?_, ?_⟩; rotate_left; (focus (intro w' hS'; (try dsimp only at hS'); go_simp; rfl)); (focus (intro K hK; go_simp; refine hK _ ?_; clear hK K))) | (refine CanT.last rfl (fun K hK => ?_); go_simp; refine hK.out _ _ ?_; clear hK K))
      refine CanT.imp rfl (fun K hK => ?_)
      go_simp
      refine Calls.mono (Hl.out _) ?_
      rintro e u2 ⟨rfl, hb2⟩
      have HF2 := Lib.hid (four HF1.out hb2)
      have Hbw2 := Lib.hid (Hbw1.out.trans (hb2.mono Hbw1.out.size))
      clear hb2
      go_simp
      refine hK.out _ _ HF2.out ?_
      clear hK K
      repeat (first | (refine CanT.heldR rfl ?_ 26 (.tmp 3) rfl w.heap.size 0 ca rfl (fun w' h => Blk.range [] ca [] (by simpa using h.1)) _ Tryd.underlying26 rfl (by rw [Lca.out]; kernel_rfl) (fun K hK => ?_); (focus (go_simp; done)); go_simp; refine hK _ ?_; clear hK K) | (refine CanT.heldR rfl ?_ 26 (.tmp 4) rfl (w.heap.size + 1) 0 cb rfl (fun w' h => Blk.range [] cb [] (by simpa using h.2.1)) _ Tryd.underlying26 rfl (by rw [Lcb.out]; kernel_rfl) (fun K hK => ?_); (focus (go_simp; done)); go_simp; refine hK _ ?_; clear hK K) | (refine CanT.heldR rfl ?_ 26 (.tmp 7) rfl gx 0 ca rfl (fun w' h => Blk.range [] ca [] (by simpa using h.2.2.1)) _ Tryd.underlying26 rfl (by rw [Lca.out]; kernel_rfl) (fun K hK => ?_); (focus (go_simp; done)); go_simp; refine hK _ ?_; clear hK K) | (refine CanT.heldR rfl ?_ 26 (.tmp 9) rfl gy 0 cy rfl (fun w' h => Blk.range [] cy [] (by simpa using h.2.2.2)) _ Tryd.underlying26 rfl (by rw [Lcy.out]; kernel_rfl) (fun K hK => ?_); (focus (go_simp; done)); go_simp; refine hK _ ?_; clear hK K) | (refine CanT.skip rfl ?_ (fun K hK => ?_); (focus (go_simp; done)); go_simp; refine hK _ ?_; clear hK K) | (refine CanT.pur rfl ?_ ?_; (focus (go_simp; done)); refine ⟨?_, ?_, ?_⟩; rotate_left; (focus (intro w'; go_simp; rfl)); (focus (intro K hK; go_simp; refine hK _ ?_; clear hK K))) | (refine CanT.held rfl ?_ ?_; (focus (go_simp; done)); refine ⟨?_, ?_, ?_⟩; rotate_left; (focus (intro w' hS'; (try dsimp only at hS'); go_simp; rfl)); (focus (intro K hK; go_simp; refine hK _ ?_; clear hK K))) | (refine CanT.last rfl (fun K hK => ?_); go_simp; refine hK.out _ _ ?_; clear hK K))
      refine CanT.imp rfl (fun K hK => ?_)
      go_simp
      refine Calls.mono (Hh.out _) ?_
      rintro e u3 ⟨rfl, hb3⟩
      have HF3 := Lib.hid (four HF2.out hb3)
      have Hbw3 := Lib.hid (Hbw2.out.trans (hb3.mono Hbw2.out.size))
      clear hb3
      go_simp
      refine hK.out _ _ HF3.out ?_
      clear hK K
      repeat (first | (refine CanT.heldR rfl ?_ 26 (.tmp 3) rfl w.heap.size 0 ca rfl (fun w' h => Blk.range [] ca [] (by simpa using h.1)) _ Tryd.underlying26 rfl (by rw [Lca.out]; kernel_rfl) (fun K hK => ?_); (focus (go_simp; done)); go_simp; refine hK _ ?_; clear hK K) | (refine CanT.heldR rfl ?_ 26 (.tmp 4) rfl (w.heap.size + 1) 0 cb rfl (fun w' h => Blk.range [] cb [] (by simpa using h.2.1)) _ Tryd.underlying26 rfl (by rw [Lcb.out]; kernel_rfl) (fun K hK => ?_); (focus (go_simp; done)); go_simp; refine hK _ ?_; clear hK K) | (refine CanT.heldR rfl ?_ 26 (.tmp 7) rfl gx 0 ca rfl (fun w' h => Blk.range [] ca [] (by simpa using h.2.2.1)) _ Tryd.underlying26 rfl (by rw [Lca.out]; kernel_rfl) (fun K hK => ?_); (focus (go_simp; done)); go_simp; refine hK _ ?_; clear hK K) | (refine CanT.heldR rfl ?_ 26 (.tmp 9) rfl gy 0 cy rfl (fun w' h => Blk.range [] cy [] (by simpa using h.2.2.2)) _ Tryd.underlying26 rfl (by rw [Lcy.out]; kernel_rfl) (fun K hK => ?_); (focus (go_simp; done)); go_simp; refine hK _ ?_; clear hK K) | (refine CanT.skip rfl ?_ (fun K hK => ?_); (focus (go_simp; done)); go_simp; refine hK _ ?_; clear hK K) | (refine CanT.pur rfl ?_ ?_; (focus (go_simp; done)); refine ⟨?_, ?_, ?_⟩; rotate_left; (focus (intro w'; go_simp; rfl)); (focus (intro K hK; go_simp; refine hK _ ?_; clear hK K))) | (refine CanT.held rfl ?_ ?_; (focus (go_simp; done)); refine ⟨?_, ?_, ?_⟩; rotate_left; (focus (intro w' hS'; (try dsimp only at hS'); go_simp; rfl)); (focus (intro K hK; go_simp; refine hK _ ?_; clear hK K))) | (refine CanT.last rfl (fun K hK => ?_); go_simp; refine hK.out _ _ ?_; clear hK K))
      refine CanT.imp rfl (fun K hK => ?_)
      go_simp
      refine Calls.mono (Hg.out _) ?_
      rintro e u4 ⟨rfl, hb4⟩
      have HF4 := Lib.hid (four HF3.out hb4)
      have Hbw4 := Lib.hid (Hbw3.out.trans (hb4.mono Hbw3.out.size))
      clear hb4
      go_simp
      refine hK.out _ _ HF4.out ?_
      clear hK K
      repeat (first | (refine CanT.heldR rfl ?_ 26 (.tmp 3) rfl w.heap.size 0 ca rfl (fun w' h => Blk.range [] ca [] (by simpa using h.1)) _ Tryd.underlying26 rfl (by rw [Lca.out]; kernel_rfl) (fun K hK => ?_); (focus (go_simp; done)); go_simp; refine hK _ ?_; clear hK K) | (refine CanT.heldR rfl ?_ 26 (.tmp 4) rfl (w.heap.size + 1) 0 cb rfl (fun w' h => Blk.range [] cb [] (by simpa using h.2.1)) _ Tryd.underlying26 rfl (by rw [Lcb.out]; kernel_rfl) (fun K hK => ?_); (focus (go_simp; done)); go_simp; refine hK _ ?_; clear hK K) | (refine CanT.heldR rfl ?_ 26 (.tmp 7) rfl gx 0 ca rfl (fun w' h => Blk.range [] ca [] (by simpa using h.2.2.1)) _ Tryd.underlying26 rfl (by rw [Lca.out]; kernel_rfl) (fun K hK => ?_); (focus (go_simp; done)); go_simp; refine hK _ ?_; clear hK K) | (refine CanT.heldR rfl ?_ 26 (.tmp 9) rfl gy 0 cy rfl (fun w' h => Blk.range [] cy [] (by simpa using h.2.2.2)) _ Tryd.underlying26 rfl (by rw [Lcy.out]; kernel_rfl) (fun K hK => ?_); (focus (go_simp; done)); go_simp; refine hK _ ?_; clear hK K) | (refine CanT.skip rfl ?_ (fun K hK => ?_); (focus (go_simp; done)); go_simp; refine hK _ ?_; clear hK K) | (refine CanT.pur rfl ?_ ?_; (focus (go_simp; done)); refine ⟨?_, ?_, ?_⟩; rotate_left; (focus (intro w'; go_simp; rfl)); (focus (intro K hK; go_simp; refine hK _ ?_; clear hK K))) | (refine CanT.held rfl ?_ ?_; (focus (go_simp; done)); refine ⟨?_, ?_, ?_⟩; rotate_left; (focus (intro w' hS'; (try dsimp only at hS'); go_simp; rfl)); (focus (intro K hK; go_simp; refine hK _ ?_; clear hK K))) | (refine CanT.last rfl (fun K hK => ?_); go_simp; refine hK.out _ _ ?_; clear hK K))
      refine CanT.imp rfl (fun K hK => ?_)
      go_simp
      refine Calls.mono (Hw.out _ (Htab.out.below Hbw4.out)) ?_
      rintro e u9 ⟨rfl, hb9⟩
      have HF9 := Lib.hid (four HF4.out hb9)
      have Hbw9 := Lib.hid (Hbw4.out.trans (hb9.mono Hbw4.out.size))
      clear hb9
      go_simp
      refine hK.out _ _ HF9.out ?_
      clear hK K
      repeat (first | (refine CanT.heldR rfl ?_ 26 (.tmp 3) rfl w.heap.size 0 ca rfl (fun w' h => Blk.range [] ca [] (by simpa using h.1)) _ Tryd.underlying26 rfl (by rw [Lca.out]; kernel_rfl) (fun K hK => ?_); (focus (go_simp; done)); go_simp; refine hK _ ?_; clear hK K) | (refine CanT.heldR rfl ?_ 26 (.tmp 4) rfl (w.heap.size + 1) 0 cb rfl (fun w' h => Blk.range [] cb [] (by simpa using h.2.1)) _ Tryd.underlying26 rfl (by rw [Lcb.out]; kernel_rfl) (fun K hK => ?_); (focus (go_simp; done)); go_simp; refine hK _ ?_; clear hK K) | (refine CanT.heldR rfl ?_ 26 (.tmp 7) rfl gx 0 ca rfl (fun w' h => Blk.range [] ca [] (by simpa using h.2.2.1)) _ Tryd.underlying26 rfl (by rw [Lca.out]; kernel_rfl) (fun K hK => ?_); (focus (go_simp; done)); go_simp; refine hK _ ?_; clear hK K) | (refine CanT.heldR rfl ?_ 26 (.tmp 9) rfl gy 0 cy rfl (fun w' h => Blk.range [] cy [] (by simpa using h.2.2.2)) _ Tryd.underlying26 rfl (by rw [Lcy.out]; kernel_rfl) (fun K hK => ?_); (focus (go_simp; done)); go_simp; refine hK _ ?_; clear hK K) | (refine CanT.skip rfl ?_ (fun K hK => ?_); (focus (go_simp; done)); go_simp; refine hK _ ?_; clear hK K) | (refine CanT.pur rfl ?_ ?_; (focus (go_simp; done)); refine ⟨?_, ?_, ?_⟩; rotate_left; (focus (intro w'; go_simp; rfl)); (focus (intro K hK; go_simp; refine hK _ ?_; clear hK K))) | (refine CanT.held rfl ?_ ?_; (focus (go_simp; done)); refine ⟨?_, ?_, ?_⟩; rotate_left; (focus (intro w' hS'; (try dsimp only at hS'); go_simp; rfl)); (focus (intro K hK; go_simp; refine hK _ ?_; clear hK K))) | (refine CanT.last rfl (fun K hK => ?_); go_simp; refine hK.out _ _ ?_; clear hK K))
      refine CanT.done ?_
      go_wp2
      all_goals
        go_ret
        exact ⟨rfl, Hbw9.out⟩
    · have t1 : ((ny : Int) == 0) = false := by simpa using (by omega : ¬ (ny : Int) = 0)
      have t2 : ((ny : Int) != 0) = true := by rw [bne, t1]; rfl
      clear hn0 Hys Hy
      repeat (first | (refine CanT.heldR rfl ?_ 26 (.tmp 3) rfl w.heap.size 0 ca rfl (fun w' h => Blk.range [] ca [] (by simpa using h.1)) _ Tryd.underlying26 rfl (by rw [Lca.out]; kernel_rfl) (fun K hK => ?_); (focus (go_simp; done)); go_simp; refine hK _ ?_; clear hK K) | (refine CanT.heldR rfl ?_ 26 (.tmp 4) rfl (w.heap.size + 1) 0 cb rfl (fun w' h => Blk.range [] cb [] (by simpa using h.2.1)) _ Tryd.underlying26 rfl (by rw [Lcb.out]; kernel_rfl) (fun K hK => ?_); (focus (go_simp; done)); go_simp; refine hK _ ?_; clear hK K) | (refine CanT.heldR rfl ?_ 26 (.tmp 7) rfl gx 0 ca rfl (fun w' h => Blk.range [] ca [] (by simpa using h.2.2.1)) _ Tryd.underlying26 rfl (by rw [Lca.out]; kernel_rfl) (fun K hK => ?_); (focus (go_simp; done)); go_simp; refine hK _ ?_; clear hK K) | (refine CanT.heldR rfl ?_ 26 (.tmp 9) rfl gy 0 cy rfl (fun w' h => Blk.range [] cy [] (by simpa using h.2.2.2)) _ Tryd.underlying26 rfl (by rw [Lcy.out]; kernel_rfl) (fun K hK => ?_); (focus (go_simp; done)); go_simp; refine hK _ ?_; clear hK K) | (refine CanT.skip rfl ?_ (fun K hK => ?_); (focus (go_simp; done)); go_simp; refine hK _ ?_; clear hK K) | (refine CanT.pur rfl ?_ ?_; (focus (go_simp; done)); refine ⟨?_, ?_, ?_⟩; rotate_left; (focus (intro w'; go_simp; rfl)); (focus (intro K hK; go_simp; refine hK _ ?_; clear hK K))) | (refine CanT.held rfl ?_ ?_; (focus (go_simp; done)); refine ⟨?_, ?_, ?_⟩; rotate_left; (focus (intro w' hS'; (try dsimp only at hS'); go_simp; rfl)); (focus (intro K hK; go_simp; refine hK _ ?_; clear hK K))) | (refine CanT.last rfl (fun K hK => ?_); go_simp; refine hK.out _ _ ?_; clear hK K))
      refine CanT.imp rfl (fun K hK => ?_)
      go_simp
      refine Calls.mono (Hl.out _) ?_
      rintro e u1 ⟨rfl, hb1⟩
      have HF1 := Lib.hid (four HF.out hb1)
      have Hbw1 := Lib.hid (Hbw.out.trans (hb1.mono Hbw.out.size))
      clear hb1
      go_simp
      refine hK.out _ _ HF1.out ?_
      clear hK K
      repeat (first | (refine CanT.heldR rfl ?_ 26 (.tmp 3) rfl w.heap.size 0 ca rfl (fun w' h => Blk.range [] ca [] (by simpa using h.1)) _ Tryd.underlying26 rfl (by rw [Lca.out]; kernel_rfl) (fun K hK => ?_); (focus (go_simp; done)); go_simp; refine hK _ ?_; clear hK K) | (refine CanT.heldR rfl ?_ 26 (.tmp 4) rfl (w.heap.size + 1) 0 cb rfl (fun w' h => Blk.range [] cb [] (by simpa using h.2.1)) _ Tryd.underlying26 rfl (by rw [Lcb.out]; kernel_rfl) (fun K hK => ?_); (focus (go_simp; done)); go_simp; refine hK _ ?_; clear hK K) | (refine CanT.heldR rfl ?_ 26 (.tmp 7) rfl gx 0 ca rfl (fun w' h => Blk.range [] ca [] (by simpa using h.2.2.1)) _ Tryd.underlying26 rfl (by rw [Lca.out]; kernel_rfl) (fun K hK => ?_); (focus (go_simp; done)); go_simp; refine hK _ ?_; clear hK K) | (refine CanT.heldR rfl ?_ 26 (.tmp 9) rfl gy 0 cy rfl (fun w' h => Blk.range [] cy [] (by simpa using h.2.2.2)) _ Tryd.underlying26 rfl (by rw [Lcy.out]; kernel_rfl) (fun K hK => ?_); (focus (go_simp; done)); go_simp; refine hK _ ?_; clear hK K) | (refine CanT.skip rfl ?_ (fun K hK => ?_); (focus (go_simp; done)); go_simp; refine hK _ ?_; clear hK K) | (refine CanT.pur rfl ?_ ?_; (focus (go_simp; done)); refine ⟨?_, ?_, ?_⟩; rotate_left; (focus (intro w'; go_simp; rfl)); (focus (intro K hK; go_simp; refine hK _ ?_; clear hK K))) | (refine CanT.held rfl ?_ ?_; (focus (go_simp; done)); refine ⟨?_, ?_, ?_⟩; rotate_left; (focus (intro w' hS'; (try dsimp only at hS'); go_simp; rfl)); (focus (intro K hK; go_simp; refine hK _ ?_; clear hK K))) | (refine CanT.last rfl (fun K hK => ?_); go_simp; refine hK.out _ _ ?_; clear hK K))
      refine CanT.imp rfl (fun K hK => ?_)
      go_simp
      refine Calls.mono (Hh.out _) ?_
      rintro e u2 ⟨rfl, hb2⟩
      have HF2 := Lib.hid (four HF1.out hb2)
      have Hbw2 := Lib.hid (Hbw1.out.trans (hb2.mono Hbw1.out.size))
      clear hb2
      go_simp
      refine hK.out _ _ HF2.out ?_
      clear hK K
      repeat (first | (refine CanT.heldR rfl ?_ 26 (.tmp 3) rfl w.heap.size 0 ca rfl (fun w' h => Blk.range [] ca [] (by simpa using h.1)) _ Tryd.underlying26 rfl (by rw [Lca.out]; kernel_rfl) (fun K hK => ?_); (focus (go_simp; done)); go_simp; refine hK _ ?_; clear hK K) | (refine CanT.heldR rfl ?_ 26 (.tmp 4) rfl (w.heap.size + 1) 0 cb rfl (fun w' h => Blk.range [] cb [] (by simpa using h.2.1)) _ Tryd.underlying26 rfl (by rw [Lcb.out]; kernel_rfl) (fun K hK => ?_); (focus (go_simp; done)); go_simp; refine hK _ ?_; clear hK K) | (refine CanT.heldR rfl ?_ 26 (.tmp 7) rfl gx 0 ca rfl (fun w' h => Blk.range [] ca [] (by simpa using h.2.2.1)) _ Tryd.underlying26 rfl (by rw [Lca.out]; kernel_rfl) (fun K hK => ?_); (focus (go_simp; done)); go_simp; refine hK _ ?_; clear hK K) | (refine CanT.heldR rfl ?_ 26 (.tmp 9) rfl gy 0 cy rfl (fun w' h => Blk.range [] cy [] (by simpa using h.2.2.2)) _ Tryd.underlying26 rfl (by rw [Lcy.out]; kernel_rfl) (fun K hK => ?_); (focus (go_simp; done)); go_simp; refine hK _ ?_; clear hK K) | (refine CanT.skip rfl ?_ (fun K hK => ?_); (focus (go_simp; done)); go_simp; refine hK _ ?_; clear hK K) | (refine CanT.pur rfl ?_ ?_; (focus (go_simp; done)); refine ⟨?_, ?_, ?_⟩; rotate_left; (focus (intro w'; go_simp; rfl)); (focus (intro K hK; go_simp; refine hK _ ?_; clear hK K))) | (refine CanT.held rfl ?_ ?_; (focus (go_simp; done)); refine ⟨?_, ?_, ?_⟩; rotate_left; (focus (intro w' hS'; (try dsimp only at hS'); go_simp; rfl)); (focus (intro K hK; go_simp; refine hK _ ?_; clear hK K))) | (refine CanT.last rfl (fun K hK => ?_); go_simp; refine hK.out _ _ ?_; clear hK K))
      refine CanT.imp rfl (fun K hK => ?_)
      go_simp
      refine Calls.mono (Hg.out _) ?_
      rintro e u3 ⟨rfl, hb3⟩
      have HF3 := Lib.hid (four HF2.out hb3)
      have Hbw3 := Lib.hid (Hbw2.out.trans (hb3.mono Hbw2.out.size))
      clear hb3
      go_simp
      refine hK.out _ _ HF3.out ?_
      clear hK K
      repeat (first | (refine CanT.heldR rfl ?_ 26 (.tmp 3) rfl w.heap.size 0 ca rfl (fun w' h => Blk.range [] ca [] (by simpa using h.1)) _ Tryd.underlying26 rfl (by rw [Lca.out]; kernel_rfl) (fun K hK => ?_); (focus (go_simp; done)); go_simp; refine hK _ ?_; clear hK K) | (refine CanT.heldR rfl ?_ 26 (.tmp 4) rfl (w.heap.size + 1) 0 cb rfl (fun w' h => Blk.range [] cb [] (by simpa using h.2.1)) _ Tryd.underlying26 rfl (by rw [Lcb.out]; kernel_rfl) (fun K hK => ?_); (focus (go_simp; done)); go_simp; refine hK _ ?_; clear hK K) | (refine CanT.heldR rfl ?_ 26 (.tmp 7) rfl gx 0 ca rfl (fun w' h => Blk.range [] ca [] (by simpa using h.2.2.1)) _ Tryd.underlying26 rfl (by rw [Lca.out]; kernel_rfl) (fun K hK => ?_); (focus (go_simp; done)); go_simp; refine hK _ ?_; clear hK K) | (refine CanT.heldR rfl ?_ 26 (.tmp 9) rfl gy 0 cy rfl (fun w' h => Blk.range [] cy [] (by simpa using h.2.2.2)) _ Tryd.underlying26 rfl (by rw [Lcy.out]; kernel_rfl) (fun K hK => ?_); (focus (go_simp; done)); go_simp; refine hK _ ?_; clear hK K) | (refine CanT.skip rfl ?_ (fun K hK => ?_); (focus (go_simp; done)); go_simp; refine hK _ ?_; clear hK K) | (refine CanT.pur rfl ?_ ?_; (focus (go_simp; done)); refine ⟨?_, ?_, ?_⟩; rotate_left; (focus (intro w'; go_simp; rfl)); (focus (intro K hK; go_simp; refine hK _ ?_; clear hK K))) | (refine CanT.held rfl ?_ ?_; (focus (go_simp; done)); refine ⟨?_, ?_, ?_⟩; rotate_left; (focus (intro w' hS'; (try dsimp only at hS'); go_simp; rfl)); (focus (intro K hK; go_simp; refine hK _ ?_; clear hK K))) | (refine CanT.last rfl (fun K hK => ?_); go_simp; refine hK.out _ _ ?_; clear hK K))
      refine CanT.imp rfl (fun K hK => ?_)
      go_simp
      refine Calls.mono (Hw.out _ (Htab.out.below Hbw3.out)) ?_
      rintro e u9 ⟨rfl, hb9⟩
      have HF9 := Lib.hid (four HF3.out hb9)
      have Hbw9 := Lib.hid (Hbw3.out.trans (hb9.mono Hbw3.out.size))
      clear hb9
      go_simp
      refine hK.out _ _ HF9.out ?_
      clear hK K
      repeat (first | (refine CanT.heldR rfl ?_ 26 (.tmp 3) rfl w.heap.size 0 ca rfl (fun w' h => Blk.range [] ca [] (by simpa using h.1)) _ Tryd.underlying26 rfl (by rw [Lca.out]; kernel_rfl) (fun K hK => ?_); (focus (go_simp; done)); go_simp; refine hK _ ?_; clear hK K) | (refine CanT.heldR rfl ?_ 26 (.tmp 4) rfl (w.heap.size + 1) 0 cb rfl (fun w' h => Blk.range [] cb [] (by simpa using h.2.1)) _ Tryd.underlying26 rfl (by rw [Lcb.out]; kernel_rfl) (fun K hK => ?_); (focus (go_simp; done)); go_simp; refine hK _ ?_; clear hK K) | (refine CanT.heldR rfl ?_ 26 (.tmp 7) rfl gx 0 ca rfl (fun w' h => Blk.range [] ca [] (by simpa using h.2.2.1)) _ Tryd.underlying26 rfl (by rw [Lca.out]; kernel_rfl) (fun K hK => ?_); (focus (go_simp; done)); go_simp; refine hK _ ?_; clear hK K) | (refine CanT.heldR rfl ?_ 26 (.tmp 9) rfl gy 0 cy rfl (fun w' h => Blk.range [] cy [] (by simpa using h.2.2.2)) _ Tryd.underlying26 rfl (by rw [Lcy.out]; kernel_rfl) (fun K hK => ?_); (focus (go_simp; done)); go_simp; refine hK _ ?_; clear hK K) | (refine CanT.skip rfl ?_ (fun K hK => ?_); (focus (go_simp; done)); go_simp; refine hK _ ?_; clear hK K) | (refine CanT.pur rfl ?_ ?_; (focus (go_simp; done)); refine ⟨?_, ?_, ?_⟩; rotate_left; (focus (intro w'; go_simp; rfl)); (focus (intro K hK; go_simp; refine hK _ ?_; clear hK K))) | (refine CanT.held rfl ?_ ?_; (focus (go_simp; done)); refine ⟨?_, ?_, ?_⟩; rotate_left; (focus (intro w' hS'; (try dsimp only at hS'); go_simp; rfl)); (focus (intro K hK; go_simp; refine hK _ ?_; clear hK K))) | (refine CanT.last rfl (fun K hK => ?_); go_simp; refine hK.out _ _ ?_; clear hK K))
      refine CanT.done ?_
      go_wp2
      all_goals
        go_ret
        exact ⟨rfl, Hbw9.out⟩
end Sk
end Go.Proofs.YtlkcibhdnicpkaaDoor

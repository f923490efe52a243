/- The search, of the document. -/
import Derived.Test.YtiofkhjpknfkgaaDoorM01
import Derived.Test.YtiofkhjpknfkgaaDoorM02
import Derived.Test.YtiofkhjpknfkgaaDoorM03
import Derived.Test.YtiofkhjpknfkgaaDoorM04
import Derived.Test.YtiofkhjpknfkgaaDoorM05
import Derived.Test.YtiofkhjpknfkgaaDoorM06
import Derived.Test.YtiofkhjpknfkgaaDoorM07
import Derived.Test.YtiofkhjpknfkgaaDoorM08
import Derived.Test.YtiofkhjpknfkgaaDoorM09
import Derived.Test.YtiofkhjpknfkgaaDoorM10
import Derived.Test.YtiofkhjpknfkgaaDoorM11
import Derived.Test.YtiofkhjpknfkgaaDoorM12
namespace Go.Proofs.YtiofkhjpknfkgaaDoor
namespace Ms
open Go.RowKit Ba Tm Os_ Bk Ro Sm
set_option linter.unusedVariables false
set_option maxRecDepth 100000 in
set_option maxHeartbeats 2000000 in
theorem rbytes_calls (b : List UInt8) (A : Option Addr) (n c : Nat) (hn : n = b.length) (hc : b.length ≤ c) (hl : b.length ≤ 1000000) (w : World) (h : ReadB w w.heap.size A b) :
    Calls Tryd.prog 39 #[.slice A n c] w fun e w' => ∃ v M, e = .returned v ∧ OwnO w' w.heap.size v M ∧ ops M = whole b ∧ Below w.heap.size w w' := by
  obtain ⟨iO, hiO⟩ := isOp
  have Hi := Lib.hid hiO
  by_cases h0 : n = 0
  · have He := Lib.hid (whole_nil b (by omega))
    subst h0
    clear hn hiO
    go_enter Tryd.func39, Tryd.ntmps39
    go_wp2_with fail
    go_ret
    exact ⟨_, [], rfl, OwnO.nil, He.out.symm, Below.refl _ _⟩
  · obtain ⟨i0, hi0⟩ := isByte_of Cl.info5
    have Hi0 := Lib.hid hi0
    have he : whole b = [lit b] := if_neg (by omega)
    have He := Lib.hid he
    have hz : ¬ (n : Int) = 0 := by omega
    have Hn := Lib.hid hn
    have Ho0 : Hid (OwnB (w.alloc (.cells #[] 5)) w.heap.size 5 (.slice (some ⟨w.heap.size, 0, none⟩) 0 0) []) := Lib.hid (OwnB.lit0 w 5 w.heap.size w.heap.size rfl (Nat.le_refl _))
    have Hr0 : Hid (ReadB (w.alloc (.cells #[] 5)) w.heap.size A b) := Lib.hid (h.alloc (Nat.le_refl _) _)
    clear he hn h hiO hi0
    go_enter Tryd.func39, Tryd.ntmps39
    go_wp2_with (at_builtin; go_loud (refine wpList_appB _ rfl (.tmp 6) (.tmp 7) 22 rfl w.heap.size 5 i0 Tryd.underlying22 Hi0.out _ [] rfl Ho0.out w.heap.size A n c b rfl Hn.out Hr0.out (by simp; omega) (by simp) ?_); intro v1 w1 ho1 _ _ hb1; rw [List.nil_append] at ho1; obtain ⟨A1, c1, hv1, p1, m1, -, -⟩ := ho1.opens; subst hv1; have Hrt := Lib.hid (RT.of_own ho1); have Hb1 := Lib.hid (((Below.refl w.heap.size w).alloc (Nat.le_refl _) (.cells #[] 5)).trans hb1); have Hp1 := Lib.hid p1; have Hm1 := Lib.hid m1; clear ho1 hb1 p1 m1)
    go_wp2_with (refine wpList_bslice _ rfl 31 40 1 _ rfl Tryd.underlying31 iO 4 48 Hi.out (by omega) (by omega) [(0, .agg #[.bool false, .int .i64 0, .int .i64 0, .slice A1 b.length c1])] rfl [.bool false, .int .i64 0, .int .i64 0, .slice A1 b.length c1] (fun Z hZ => fill_one 4 (.agg #[.bool false, .int .i64 0, .int .i64 0, .slice A1 b.length c1]) rfl Z hZ) ?_)
    go_ret
    refine ⟨_, [(lit b, A1, c1)], rfl, ⟨own1 w1 w.heap.size Hb1.out.size (lit b, A1, c1), fun x hx => ?_⟩, by rw [He.out]; rfl, Hb1.out.alloc Hb1.out.size _⟩
    rw [List.mem_singleton] at hx
    subst hx
    exact WfT.below (w := w1) ⟨by simp [lit], by simp [lit], Hp1.out, Hm1.out, Hrt.out⟩ ((Below.refl _ _).alloc (Nat.le_refl _) _)
set_option maxHeartbeats 1000000 in
theorem rwhole_calls (b : List UInt8) (A : Option Addr) (n c : Nat) (hn : n = b.length) (hc : b.length ≤ c) (hl : b.length ≤ 1000000) (w : World) (h : ReadB w w.heap.size A b) :
    Calls Tryd.prog 40 #[.slice A n c] w fun e w' => ∃ v M, e = .returned v ∧ OwnO w' w.heap.size v M ∧ ops M = whole b ∧ Below w.heap.size w w' := by
  have H := Lib.hid (rbytes_calls b A n c hn hc hl w h)
  clear hn h
  go_enter Tryd.func40, Tryd.ntmps40
  go_wp2_with fail
  refine H.out.mono ?_
  rintro e w1 ⟨v, M, rfl, h1, h2, h3⟩
  have H1 := Lib.hid h1
  have H2 := Lib.hid h2
  have H3 := Lib.hid h3
  clear h1 h2 h3
  go_wp2_with fail
  go_ret
  exact ⟨_, M, rfl, H1.out, H2.out, H3.out⟩
theorem app_new {w1 w2 w3 : World} {base : Nat} {u v : Value} {L M : List Ow} (ho : OwnO w1 base u L) (hm : OwnO w1 w2.heap.size v M) {v3 : Value} (h3 : OwnRow opv 4 w3 base 40 v3 (L ++ M)) (hg : w1.grownBy w3 u.ownBlock) : OwnO w3 base v3 (L ++ M) := ho.app h3 hg (fun x hx => hm.2 x hx)
theorem app_copy2 {w3 w4 : World} {base : Nat} {u v : Value} {L : List Ow} {a : Int} {z : Nat} (ho : OwnO w3 base u L) (ha : 0 ≤ a ∧ a ≤ 33554432) (hz : z ≤ 1000000)
    (h1 : OwnRow opv 4 w4 base 40 v (L ++ [(cp a z, none, 0)])) (hg : (w3.alloc (.cells #[.bool true, .int .i64 a, .int .i64 (z : Int), .slice none 0 0] 40)).grownBy w4 u.ownBlock) :
    OwnO w4 base v (L ++ [(cp a z, none, 0)]) := (ho.alloc _).app h1 hg (fun x hx => by
  rw [List.mem_singleton] at hx
  subst hx
  exact ⟨by simp only [cp]; omega, by simp only [cp]; omega, by simp [cp], by show (0 : Nat) ≤ _; omega, RT.nil⟩)
set_option maxRecDepth 100000 in
set_option maxHeartbeats 32000000 in
theorem rsearch_calls (z : Nat) (l : List Sg) (Lp : Option Addr) (m d : Nat) (b : List UInt8) (A : Option Addr) (n c : Nat) (w : World) (hm : m = l.length) (hz : 1 ≤ z ∧ z ≤ 4096) (hl : l.length ≤ 4096) (hL : ReadRow sgv 33 w w.heap.size Lp l) (hr : ReadB w w.heap.size A b) (hn : n = b.length) (hc : n ≤ c) (hcm : c ≤ 9223372036854775807) (hbl : n ≤ 1500) :
    Calls Tryd.prog 14 #[.int .i64 (z : Int), .slice Lp m d, .slice A n c] w fun e w' => ∃ v M, e = .returned v ∧ OwnO w' w.heap.size v M ∧ ops M = search (findB z l) z b ∧ Below w.heap.size w w' := by
  have hFb := fun x => find_bd z l x hz.2 hl
  have hFc : ∀ (w' : World) (x : List UInt8) (A' : Option Addr) (c' : Nat), x.length = z → Below w.heap.size w w' → ReadB w' w'.heap.size A' x → z ≤ c' → Calls Tryd.prog 38 #[.int .i64 (z : Int), .slice Lp m d, .slice A' z c'] w' fun e w'' => e = .returned (.tuple #[.int .i64 (findB z l x).1, .bool (findB z l x).2]) ∧ Below w'.heap.size w' w'' := by
    intro w' x A' c' hx hb' hr' h1
    have := rfind_calls w' z l hz.2 hl Lp d ((hL.below hb').more hb'.size) x A' c' hr' (by omega) (by omega)
    rwa [hx, ← hm] at this
  obtain ⟨F, hF⟩ : ∃ F, F = findB z l := ⟨_, rfl⟩
  rw [← hF] at hFb hFc ⊢
  obtain ⟨R, hR⟩ : ∃ R, R = srch F z b (b.length + 1) [] 0 0 := ⟨_, rfl⟩
  have hse : search F z b = fin b R := by rw [hR]; rfl
  obtain ⟨iO, hiO⟩ := isOp
  have Hi := Lib.hid hiO
  obtain ⟨i0, hi0⟩ := isByte_of Cl.info5
  have HFb := Lib.hid hFb
  have HFc := Lib.hid hFc
  have HR := Lib.hid hR
  have Hse := Lib.hid hse
  have Hi0 := Lib.hid hi0
  have Hr := Lib.hid hr
  have Hn := Lib.hid hn
  clear hFb hFc hR hse hi0 hr hn hF hL hm hl hiO
  go_enter Tryd.func14, Tryd.ntmps14
  go_wp2_with fail
  go_loopg [7, 8, 9, 10, 11, 12] (n + 1) (fun q v7 v8 v9 v10 v11 v12 wr => ∃ (i frm : Nat) (L : List Ow), q = n + 1 - i ∧ v8 = .int .i64 (frm : Int) ∧ v9 = .int .i64 (i : Int) ∧ frm ≤ i ∧ i ≤ n ∧ OwnO wr w.heap.size v7 L ∧ Tm.rest F z b (ops L) frm i = R ∧ Small (ops L) frm ∧ L.length ≤ 2 * i ∧ Below w.heap.size w wr)
  case atStart => exact ⟨0, 0, [], by omega, rfl, rfl, Nat.le_refl _, by omega, OwnO.nil, by rw [HR.out]; exact rest_zero F z b, fun x hx => absurd hx (by simp [ops]), by simp, Below.refl _ _⟩
  case round =>
    obtain ⟨i, frm, L, hq, rfl, rfl, hfi, hin, ho, hrest, hsm, hLl, hB⟩ := hrel
    have Hq := Lib.hid hq
    have Hrest := Lib.hid hrest
    have Hsm := Lib.hid hsm
    have HLl := Lib.hid hLl
    have HB := Lib.hid hB
    have HO := Lib.hid ho
    clear hq hrest hsm hLl hB ho
    by_cases hb : i + z ≤ n
    · obtain ⟨x, hx⟩ : ∃ x, x = cut b i (i + z) := ⟨_, rfl⟩
      have hxl : x.length = z := by rw [hx, cut_len b i (i + z) (by omega) (by have := Hn.out; omega)]; omega
      obtain ⟨bb, o, rfl, hbb, hcell⟩ := Hr.out (by have := Hn.out; omega)
      have hsl := fun w' => sl_lh (P := Tryd.prog) 22 5 i0 Tryd.underlying22 Hi0.out bb o n c (i : Int) ((i : Int) + (z : Int)) i z rfl rfl (by omega) (by omega) w'
      have hrdx : ReadB wr wr.heap.size (some ⟨bb, o + i, none⟩) x := by rw [hx]; exact ((readB_cut (Hr.out.below HB.out)).more HB.out.size)
      have hfc := HFc.out wr x (some ⟨bb, o + i, none⟩) (c - i) hxl HB.out hrdx (by omega)
      obtain ⟨fa, ff, hfx⟩ : ∃ fa ff, F x = (fa, ff) := ⟨_, _, rfl⟩
      have hfb := HFb.out x
      rw [hfx] at hfc hfb
      simp only at hfb hfc
      have hmiss : ff = false → Tm.rest F z b (ops L) frm (i + 1) = R := fun h1 => by rw [← Hrest.out]; exact (rest_miss F z b hz.1 (ops L) frm i (by have := Hn.out; omega) (by rw [← hx, hfx]; exact h1)).symm
      have hhit : ff = true → Tm.rest F z b (Tm.put1 z b (ops L) frm i fa) (i + z) (i + z) = R := fun h1 => by
        have h2 := rest_hit F z b hz.1 (ops L) frm i (by have := Hn.out; omega) (by rw [← hx, hfx]; exact h1)
        rw [← hx, hfx, Hrest.out] at h2
        exact h2.symm
      have Hfc := Lib.hid hfc
      have Hmiss := Lib.hid hmiss
      have Hhit := Lib.hid hhit
      have Hx := Lib.hid hx
      clear hfc hmiss hhit hx hfx hrdx hcell hxl hbb
      cases ff with
      | false =>
        go_wp2_with (go_at_call 38; refine Hfc.out.mono ?_; rintro e4 w4 ⟨rfl, hb4⟩)
        have HB4 := Lib.hid (HB.out.trans (hb4.mono HB.out.size))
        have HO4 := Lib.hid (HO.out.keptB hb4)
        clear hb4 hsl
        (try go_wp2_with fail)
        go_roundg (n + 1 - (i + 1))
        case rel => exact ⟨i + 1, frm, L, rfl, by first | rfl | simp, by first | rfl | simp, by omega, by omega, HO4.out, (show Tm.rest F z b (ops L) frm (i + 1) = R by first | exact Hmiss.out rfl | exact Hmiss.out trivial), Hsm.out, by have := HLl.out; omega, HB4.out⟩
        case measure => have := Hq.out; omega
      | true =>
        by_cases hne : i = frm
        · subst hne
          rcases L.eq_nil_or_concat with h0 | ⟨L0, x0, hLx⟩
          · have Hput := Lib.hid (put1_new z b (ops L) i i fa (by rw [h0]; exact joins_nil _ _ _))
            obtain ⟨A0, c0, hu, -⟩ := HO.out.opens
            have hl0 : L.length = 0 := by rw [h0]; rfl
            rw [hl0] at hu
            subst hu
            clear h0 hl0
            go_wp2_with (go_at_call 38; refine Hfc.out.mono ?_; rintro e4 w4 ⟨rfl, hb4⟩)
            have HB4 : Hid (Below w.heap.size w w4.drew) := Lib.hid (HB.out.trans (hb4.mono HB.out.size)).drew
            have HO4 : Hid (OwnO w4.drew w.heap.size (.slice A0 0 c0) L) := Lib.hid (HO.out.keptB hb4.drew)
            skip
            clear hb4
            (try go_wp2_with fail)
            refine CanT.region (fun w' => w4.drew = w') 1000 (.op 0 2 (.op 1 2 (.op 2 2 (.op 3 2 (.op 4 2 (.op 5 2 (.op 6 2 (.op 7 2 (.op 8 2 (.op 9 2 (.op 10 2 (.op 11 2 (.op 12 2 (.op 13 1 (.op 14 2 (.op 15 2 (.op 16 2 (.op 17 2 (.op 18 2 (.op 19 2 (.op 20 2 (.op 21 1 (.op 22 2 (.op 23 2 (.op 24 2 (.op 25 2 (.op 26 2 (.op 27 1 (.op 28 2 (.op 29 2 (.op 30 2 (.op 31 2 (.nil))))))))))))))))))))))))))))))))) (by kernel_rfl) (by kernel_rfl) rfl ?_
            generalize w4.drew = W at *
            repeat (first | (refine CanT.skip rfl ?_ (fun K hK => ?_); (focus (go_simp; done)); go_simp; refine hK _ ?_; clear hK K) | (refine CanT.pur rfl ?_ ?_; (focus (go_simp; done)); refine ⟨?_, ?_, ?_⟩; rotate_left; (focus (intro w'; go_simp; rfl)); (focus (intro K hK; go_simp; refine hK _ ?_; clear hK K))))
            refine CanT.done ?_
            have hsl2 := fun w' => sl_lh (P := Tryd.prog) 22 5 i0 Tryd.underlying22 Hi0.out bb o n c (i : Int) (i : Int) i (i - i) rfl (by omega) (by omega) (by omega) w'
            obtain ⟨m2, hm2⟩ : ∃ m2, m2 = i - i := ⟨_, rfl⟩
            rw [← hm2] at hsl2
            have hrd2 : ReadB W w.heap.size (some ⟨bb, o + i, none⟩) (cut b i i) := (((Hr.out.below HB4.out).drop _).take _)
            have hby := rbytes_calls (cut b i i) (some ⟨bb, o + i, none⟩) (i - i) (c - i) (by rw [cut_len b i i (by omega) (by have := Hn.out; omega)]) (by rw [cut_len b i i (by omega) (by have := Hn.out; omega)]; omega) (by rw [cut_len b i i (by omega) (by have := Hn.out; omega)]; omega) W (hrd2.more HB4.out.size)
            rw [← hm2] at hby
            have Hby := Lib.hid hby
            clear hrd2 hby hsl hm2
            go_wp2_with fail
            refine Calls.mono Hby.out ?_
            rintro e5 w5 ⟨v5, M, rfl, ho5, hM5, hb5⟩
            obtain ⟨A5, c5, e5, -, -, q5, -⟩ := ho5.opens
            subst e5
            have hml : M.length ≤ 1 := by rw [← ops_len, hM5]; exact whole_len _
            have HO5 := Lib.hid (HO4.out.keptB hb5)
            have HM5 := Lib.hid ho5
            have HE5 := Lib.hid hM5
            have HB5 := Lib.hid (HB4.out.trans (hb5.mono HB4.out.size))
            have HQ5 := Lib.hid q5
            have Hml := Lib.hid hml
            have Hs5 : Hid (w.heap.size ≤ w5.heap.size) := Lib.hid HB5.out.size
            clear ho5 hM5 hb5 q5 hml hsl2
            go_wp2_with (first
              | (at_builtin; go_loud (refine wpList_appR _ rfl (.tmp 79) (.tmp 84) 31 rfl w.heap.size 40 iO 48 Tryd.underlying31 Hi.out (by omega) _ L rfl HO5.out.1 w5.heap.size A5 M.length c5 M rfl rfl HQ5.out.1 (by have := HLl.out; have := Hml.out; omega) (by have := HLl.out; have := Hml.out; omega) Hs5.out ?_); intro v6 w6 ho6 hg6 _ hb6; have HO6 := Lib.hid (app_new HO5.out HM5.out ho6 hg6); have HB6 := Lib.hid (HB5.out.trans hb6); clear ho6 hg6 hb6)
              | (refine wpList_bslice _ rfl 31 40 1 _ rfl Tryd.underlying31 iO 4 48 Hi.out (by omega) (by omega) [(0, .agg #[.bool true, .int .i64 fa, .int .i64 (z : Int), .slice none 0 0])] rfl [.bool true, .int .i64 fa, .int .i64 (z : Int), .slice none 0 0] (fun Z hZ => fill_one 4 (.agg #[.bool true, .int .i64 fa, .int .i64 (z : Int), .slice none 0 0]) rfl Z hZ) ?_)
              | (at_builtin; go_loud (refine wpList_appR _ rfl (.tmp 86) (.tmp 90) 31 rfl w.heap.size 40 iO 48 Tryd.underlying31 Hi.out (by omega) v6 (L ++ M) rfl (HO6.out.alloc _).1 (w6.heap.size + 1) (some ⟨w6.heap.size, 0, none⟩) 1 1 [(cp fa z, none, 0)] rfl rfl (lit_op1 w6 fa z) (by have := HLl.out; have := Hml.out; simp; omega) (by have := HLl.out; have := Hml.out; simp; omega) (Nat.le_trans HB6.out.size (by simp)) ?_); intro v7 w7 ho7 hg7 _ hb7; have HO7 := Lib.hid (app_copy2 HO6.out hfb (by omega) ho7 hg7); have HB7 := Lib.hid ((HB6.out.alloc HB6.out.size _).trans hb7); clear ho7 hg7 hb7))
            have HE7 : Hid (ops (L ++ M ++ [(cp fa z, none, 0)]) = Tm.put1 z b (ops L) i i fa) := Lib.hid (by rw [ops_app, ops_app, HE5.out, Hput.out]; rfl)
            have hs7 : Small (ops (L ++ M ++ [(cp fa z, none, 0)])) (i + z) := by rw [HE7.out]; exact Hsm.out.put1 (by omega) hfb
            have hl7 : (L ++ M ++ [(cp fa z, none, 0)]).length ≤ 2 * (i + z) := by
              have h1 := put1_len (z := z) (b := b) (out := ops L) (frm := i) (i := i) (a := fa)
              rw [← HE7.out, ops_len, ops_len] at h1
              have := HLl.out
              omega
            have hr7 : Tm.rest F z b (ops (L ++ M ++ [(cp fa z, none, 0)])) (i + z) (i + z) = R := by rw [HE7.out]; first | exact Hhit.out rfl | exact Hhit.out trivial
            have Hs7 := Lib.hid hs7
            have Hl7 := Lib.hid hl7
            have Hr7 := Lib.hid hr7
            clear hs7 hl7 hr7
            (try go_wp2_with fail)
            go_roundg (n + 1 - (i + z))
            case rel => exact ⟨i + z, i + z, _, rfl, by first | rfl | simp, by first | rfl | simp, Nat.le_refl _, hb, HO7.out, Hr7.out, Hs7.out, Hl7.out, HB7.out⟩
            case measure => have := Hq.out; omega
          · rw [List.concat_eq_append] at hLx
            obtain ⟨⟨x1, x2, x3, x4⟩, D, e⟩ := x0
            have ho2 := HO.out
            rw [hLx] at ho2
            obtain ⟨gu, cu, cs, hu, hgu, hcu1, hcu2, hbu, hc0, hc1, hc2, hset⟩ := own_last ho2
            subst hu
            have hsm := Hsm.out (⟨x1, x2, x3, x4⟩ : O) (by rw [hLx, ops_app]; exact List.mem_append_right _ (List.mem_singleton.2 rfl))
            have hLl : L0.length ≤ 3000 := by have := HLl.out; rw [hLx, List.length_append] at this; omega
            obtain ⟨k, hk⟩ : ∃ k, k = L0.length := ⟨_, rfl⟩
            rw [← hk] at hc0 hc1 hc2 hset hcu1 hLl HO ⊢
            have hix := fun w' => run_ix (P := Tryd.prog) 31 Tryd.underlying31 Hi.out (by omega) gu k (k + 1) cu (by omega) w'
            have Hgl : Hid (gu < wr.heap.size) := Lib.hid hbu.lt
            have Hgu := Lib.hid hgu
            have Hc0 := Lib.hid hc0
            have Hc1 := Lib.hid hc1
            have Hc2 := Lib.hid hc2
            have hw3 : IntKind.i64.wrap (k : Int) = (k : Int) := by rw [IntKind.wrap_i64]; omega
            obtain ⟨e1, e2, e3, e4⟩ := hsm
            simp only at e1 e2 e3 e4
            have hw4 : IntKind.i64.wrap (x2 + x3) = x2 + x3 := by rw [IntKind.wrap_i64]; omega
            have Hjl := Lib.hid (joins_last L0 x1 x2 x3 x4 D e i fa)
            have HLx := Lib.hid hLx
            have Hk := Lib.hid hk
            clear hc0 hc1 hc2 hset hbu ho2 hLx hk hgu
            cases x1 with
            | false =>
              have Hput := Lib.hid (put1_new z b (ops L) i i fa (by rw [HLx.out, Hjl.out]; rfl))
              go_wp2_with (go_at_call 38; refine Hfc.out.mono ?_; rintro e4 w4 ⟨rfl, hb4⟩)
              have HB4 : Hid (Below w.heap.size w w4.drew) := Lib.hid (HB.out.trans (hb4.mono HB.out.size)).drew
              have HO4 : Hid (OwnO w4.drew w.heap.size ((.slice (some ⟨gu, 0, none⟩) (k + 1) cu)) L) := Lib.hid (HO.out.keptB hb4.drew)
              have hg4 : wr.heap.size ≤ w4.heap.size := hb4.size
              have Hc0 : Hid (w4.drew.cell? ⟨gu, k * 4, none⟩ = some (.bool false)) := Lib.hid ((hb4.cell (p := ⟨gu, k * 4, none⟩) Hgl.out).trans Hc0.out)
              have Hc1 : Hid (w4.drew.cell? ⟨gu, k * 4 + 1, none⟩ = some (.int .i64 x2)) := Lib.hid ((hb4.cell (p := ⟨gu, k * 4 + 1, none⟩) Hgl.out).trans Hc1.out)
              have Hc2 : Hid (w4.drew.cell? ⟨gu, k * 4 + 2, none⟩ = some (.int .i64 x3)) := Lib.hid ((hb4.cell (p := ⟨gu, k * 4 + 2, none⟩) Hgl.out).trans Hc2.out)
              clear hg4
              clear hb4
              (try go_wp2_with fail)
              refine CanT.region (fun w' => w4.drew = w') 1000 (.op 0 2 (.op 1 2 (.op 2 2 (.op 3 2 (.op 4 2 (.op 5 2 (.op 6 2 (.op 7 2 (.op 8 2 (.op 9 2 (.op 10 2 (.op 11 2 (.op 12 2 (.op 13 1 (.op 14 2 (.op 15 2 (.op 16 2 (.op 17 2 (.op 18 2 (.op 19 2 (.op 20 2 (.op 21 1 (.op 22 2 (.op 23 2 (.op 24 2 (.op 25 2 (.op 26 2 (.op 27 1 (.op 28 2 (.op 29 2 (.op 30 2 (.op 31 2 (.nil))))))))))))))))))))))))))))))))) (by kernel_rfl) (by kernel_rfl) rfl ?_
              generalize w4.drew = W at *
              repeat (first | (refine CanT.skip rfl ?_ (fun K hK => ?_); (focus (go_simp; done)); go_simp; refine hK _ ?_; clear hK K) | (refine CanT.pur rfl ?_ ?_; (focus (go_simp; done)); refine ⟨?_, ?_, ?_⟩; rotate_left; (focus (intro w'; go_simp; rfl)); (focus (intro K hK; go_simp; refine hK _ ?_; clear hK K))) | (refine CanT.cellG rfl ?_ (.bool false) (.bool false) ⟨gu, k * 4, none⟩ (fun w' e => by rw [← e]; exact Hc0.out) ?_ (fun K hK => ?_); (focus (go_simp; done)); (focus (intro w' hc'; go_simp; (try rfl))); go_simp; refine hK _ ?_; clear hK K) | (refine CanT.cellG rfl ?_ (.int .i64 x2) (.int .i64 x2) ⟨gu, k * 4 + 1, none⟩ (fun w' e => by rw [← e]; exact Hc1.out) ?_ (fun K hK => ?_); (focus (go_simp; done)); (focus (intro w' hc'; go_simp; (try rfl))); go_simp; refine hK _ ?_; clear hK K) | (refine CanT.cellG rfl ?_ (.int .i64 x3) (.int .i64 x3) ⟨gu, k * 4 + 2, none⟩ (fun w' e => by rw [← e]; exact Hc2.out) ?_ (fun K hK => ?_); (focus (go_simp; done)); (focus (intro w' hc'; go_simp; (try rfl))); go_simp; refine hK _ ?_; clear hK K))
              refine CanT.done ?_
              have hsl2 := fun w' => sl_lh (P := Tryd.prog) 22 5 i0 Tryd.underlying22 Hi0.out bb o n c (i : Int) (i : Int) i (i - i) rfl (by omega) (by omega) (by omega) w'
              obtain ⟨m2, hm2⟩ : ∃ m2, m2 = i - i := ⟨_, rfl⟩
              rw [← hm2] at hsl2
              have hrd2 : ReadB W w.heap.size (some ⟨bb, o + i, none⟩) (cut b i i) := (((Hr.out.below HB4.out).drop _).take _)
              have hby := rbytes_calls (cut b i i) (some ⟨bb, o + i, none⟩) (i - i) (c - i) (by rw [cut_len b i i (by omega) (by have := Hn.out; omega)]) (by rw [cut_len b i i (by omega) (by have := Hn.out; omega)]; omega) (by rw [cut_len b i i (by omega) (by have := Hn.out; omega)]; omega) W (hrd2.more HB4.out.size)
              rw [← hm2] at hby
              have Hby := Lib.hid hby
              clear hrd2 hby hsl hm2
              go_wp2_with fail
              refine Calls.mono Hby.out ?_
              rintro e5 w5 ⟨v5, M, rfl, ho5, hM5, hb5⟩
              obtain ⟨A5, c5, e5, -, -, q5, -⟩ := ho5.opens
              subst e5
              have hml : M.length ≤ 1 := by rw [← ops_len, hM5]; exact whole_len _
              have HO5 := Lib.hid (HO4.out.keptB hb5)
              have HM5 := Lib.hid ho5
              have HE5 := Lib.hid hM5
              have HB5 := Lib.hid (HB4.out.trans (hb5.mono HB4.out.size))
              have HQ5 := Lib.hid q5
              have Hml := Lib.hid hml
              have Hs5 : Hid (w.heap.size ≤ w5.heap.size) := Lib.hid HB5.out.size
              clear ho5 hM5 hb5 q5 hml hsl2
              go_wp2_with (first
                | (at_builtin; go_loud (refine wpList_appR _ rfl (.tmp 79) (.tmp 84) 31 rfl w.heap.size 40 iO 48 Tryd.underlying31 Hi.out (by omega) _ L rfl HO5.out.1 w5.heap.size A5 M.length c5 M rfl rfl HQ5.out.1 (by have := HLl.out; have := Hml.out; omega) (by have := HLl.out; have := Hml.out; omega) Hs5.out ?_); intro v6 w6 ho6 hg6 _ hb6; have HO6 := Lib.hid (app_new HO5.out HM5.out ho6 hg6); have HB6 := Lib.hid (HB5.out.trans hb6); clear ho6 hg6 hb6)
                | (refine wpList_bslice _ rfl 31 40 1 _ rfl Tryd.underlying31 iO 4 48 Hi.out (by omega) (by omega) [(0, .agg #[.bool true, .int .i64 fa, .int .i64 (z : Int), .slice none 0 0])] rfl [.bool true, .int .i64 fa, .int .i64 (z : Int), .slice none 0 0] (fun Z hZ => fill_one 4 (.agg #[.bool true, .int .i64 fa, .int .i64 (z : Int), .slice none 0 0]) rfl Z hZ) ?_)
                | (at_builtin; go_loud (refine wpList_appR _ rfl (.tmp 86) (.tmp 90) 31 rfl w.heap.size 40 iO 48 Tryd.underlying31 Hi.out (by omega) v6 (L ++ M) rfl (HO6.out.alloc _).1 (w6.heap.size + 1) (some ⟨w6.heap.size, 0, none⟩) 1 1 [(cp fa z, none, 0)] rfl rfl (lit_op1 w6 fa z) (by have := HLl.out; have := Hml.out; simp; omega) (by have := HLl.out; have := Hml.out; simp; omega) (Nat.le_trans HB6.out.size (by simp)) ?_); intro v7 w7 ho7 hg7 _ hb7; have HO7 := Lib.hid (app_copy2 HO6.out hfb (by omega) ho7 hg7); have HB7 := Lib.hid ((HB6.out.alloc HB6.out.size _).trans hb7); clear ho7 hg7 hb7))
              have HE7 : Hid (ops (L ++ M ++ [(cp fa z, none, 0)]) = Tm.put1 z b (ops L) i i fa) := Lib.hid (by rw [ops_app, ops_app, HE5.out, Hput.out]; rfl)
              have hs7 : Small (ops (L ++ M ++ [(cp fa z, none, 0)])) (i + z) := by rw [HE7.out]; exact Hsm.out.put1 (by omega) hfb
              have hl7 : (L ++ M ++ [(cp fa z, none, 0)]).length ≤ 2 * (i + z) := by
                have h1 := put1_len (z := z) (b := b) (out := ops L) (frm := i) (i := i) (a := fa)
                rw [← HE7.out, ops_len, ops_len] at h1
                have := HLl.out
                omega
              have hr7 : Tm.rest F z b (ops (L ++ M ++ [(cp fa z, none, 0)])) (i + z) (i + z) = R := by rw [HE7.out]; first | exact Hhit.out rfl | exact Hhit.out trivial
              have Hs7 := Lib.hid hs7
              have Hl7 := Lib.hid hl7
              have Hr7 := Lib.hid hr7
              clear hs7 hl7 hr7
              (try go_wp2_with fail)
              go_roundg (n + 1 - (i + z))
              case rel => exact ⟨i + z, i + z, _, rfl, by first | rfl | simp, by first | rfl | simp, Nat.le_refl _, hb, HO7.out, Hr7.out, Hs7.out, Hl7.out, HB7.out⟩
              case measure => have := Hq.out; omega
            | true =>
              by_cases hx2 : x2 + x3 = fa
              · have Hput := Lib.hid (put1_joins z b L0 true x2 x3 x4 D e i i fa (by rw [Hjl.out]; simp [hx2]))
                have t1 : decide (x2 + x3 = fa) = true := decide_eq_true hx2
                have t2 : (x2 + x3 == fa) = true := by rw [beq_iff_eq]; exact hx2
                clear hx2
                go_wp2_with (go_at_call 38; refine Hfc.out.mono ?_; rintro e4 w4 ⟨rfl, hb4⟩)
                have HB4 : Hid (Below w.heap.size w w4.drew) := Lib.hid (HB.out.trans (hb4.mono HB.out.size)).drew
                have HO4 : Hid (OwnO w4.drew w.heap.size ((.slice (some ⟨gu, 0, none⟩) (k + 1) cu)) L) := Lib.hid (HO.out.keptB hb4.drew)
                have hg4 : wr.heap.size ≤ w4.heap.size := hb4.size
                have Hc0 : Hid (w4.drew.cell? ⟨gu, k * 4, none⟩ = some (.bool true)) := Lib.hid ((hb4.cell (p := ⟨gu, k * 4, none⟩) Hgl.out).trans Hc0.out)
                have Hc1 : Hid (w4.drew.cell? ⟨gu, k * 4 + 1, none⟩ = some (.int .i64 x2)) := Lib.hid ((hb4.cell (p := ⟨gu, k * 4 + 1, none⟩) Hgl.out).trans Hc1.out)
                have Hc2 : Hid (w4.drew.cell? ⟨gu, k * 4 + 2, none⟩ = some (.int .i64 x3)) := Lib.hid ((hb4.cell (p := ⟨gu, k * 4 + 2, none⟩) Hgl.out).trans Hc2.out)
                clear hg4
                clear hb4
                (try go_wp2_with fail)
                refine CanT.region (fun w' => w4.drew = w') 1000 (.op 0 2 (.op 1 2 (.op 2 2 (.op 3 2 (.op 4 2 (.op 5 2 (.op 6 2 (.op 7 2 (.op 8 2 (.op 9 2 (.op 10 2 (.op 11 2 (.op 12 2 (.op 13 1 (.op 14 2 (.op 15 2 (.op 16 2 (.op 17 2 (.op 18 2 (.op 19 2 (.op 20 2 (.op 21 1 (.op 22 2 (.op 23 2 (.op 24 2 (.op 25 2 (.op 26 2 (.op 27 1 (.op 28 2 (.op 29 2 (.op 30 2 (.op 31 2 (.nil))))))))))))))))))))))))))))))))) (by kernel_rfl) (by kernel_rfl) rfl ?_
                generalize w4.drew = W at *
                repeat (first | (refine CanT.skip rfl ?_ (fun K hK => ?_); (focus (go_simp; done)); go_simp; refine hK _ ?_; clear hK K) | (refine CanT.pur rfl ?_ ?_; (focus (go_simp; done)); refine ⟨?_, ?_, ?_⟩; rotate_left; (focus (intro w'; go_simp; rfl)); (focus (intro K hK; go_simp; refine hK _ ?_; clear hK K))) | (refine CanT.cellG rfl ?_ (.bool true) (.bool true) ⟨gu, k * 4, none⟩ (fun w' e => by rw [← e]; exact Hc0.out) ?_ (fun K hK => ?_); (focus (go_simp; done)); (focus (intro w' hc'; go_simp; (try rfl))); go_simp; refine hK _ ?_; clear hK K) | (refine CanT.cellG rfl ?_ (.int .i64 x2) (.int .i64 x2) ⟨gu, k * 4 + 1, none⟩ (fun w' e => by rw [← e]; exact Hc1.out) ?_ (fun K hK => ?_); (focus (go_simp; done)); (focus (intro w' hc'; go_simp; (try rfl))); go_simp; refine hK _ ?_; clear hK K) | (refine CanT.cellG rfl ?_ (.int .i64 x3) (.int .i64 x3) ⟨gu, k * 4 + 2, none⟩ (fun w' e => by rw [← e]; exact Hc2.out) ?_ (fun K hK => ?_); (focus (go_simp; done)); (focus (intro w' hc'; go_simp; (try rfl))); go_simp; refine hK _ ?_; clear hK K))
                refine CanT.done ?_
                have ho2 := HO4.out
                rw [HLx.out] at ho2
                obtain ⟨gu', cu', cs, hu, -, -, -, hbu, hc0, hc1, hc2, hset⟩ := own_last ho2
                injection hu with hu1 hu2 hu3
                injection hu1 with hu1
                injection hu1 with hu1
                subst hu1 hu3
                rw [← Hk.out] at hc0 hc1 hc2 hset
                have kf := Blk.frozen hbu
                have hw5 : IntKind.i64.wrap (x3 + (z : Int)) = x3 + (z : Int) := by rw [IntKind.wrap_i64]; omega
                have HO7 := Lib.hid (hset (x3 + (z : Int)) (by omega))
                have HB7 : Hid (Below w.heap.size w (W.setCell ⟨gu, k * 4 + 2, none⟩ (.int .i64 (x3 + (z : Int))))) := Lib.hid (HB4.out.setCell (p := ⟨gu, k * 4 + 2, none⟩) Hgu.out _)
                have HE7 : Hid (ops (L0 ++ [(⟨true, x2, x3 + (z : Int), x4⟩, D, e)]) = Tm.put1 z b (ops L) i i fa) := Lib.hid (by rw [HLx.out]; exact Hput.out.symm)
                clear hset hbu ho2 hu2 hsl
                go_wp2_with fail
                have hs7 : Small (ops (L0 ++ [((⟨true, x2, x3 + (z : Int), x4⟩ : O), D, e)])) (i + z) := by rw [HE7.out]; exact Hsm.out.put1 (by omega) hfb
                have hl7 : (L0 ++ [((⟨true, x2, x3 + (z : Int), x4⟩ : O), D, e)]).length ≤ 2 * (i + z) := by
                  have h1 := put1_len (z := z) (b := b) (out := ops L) (frm := i) (i := i) (a := fa)
                  rw [← HE7.out, ops_len, ops_len] at h1
                  have := HLl.out
                  omega
                have hr7 : Tm.rest F z b (ops (L0 ++ [((⟨true, x2, x3 + (z : Int), x4⟩ : O), D, e)])) (i + z) (i + z) = R := by rw [HE7.out]; first | exact Hhit.out rfl | exact Hhit.out trivial
                have Hs7 := Lib.hid hs7
                have Hl7 := Lib.hid hl7
                have Hr7 := Lib.hid hr7
                clear hs7 hl7 hr7
                (try go_wp2_with fail)
                go_roundg (n + 1 - (i + z))
                case rel => exact ⟨i + z, i + z, _, rfl, by first | rfl | simp, by first | rfl | simp, Nat.le_refl _, hb, HO7.out, Hr7.out, Hs7.out, Hl7.out, HB7.out⟩
                case measure => have := Hq.out; omega
              · have Hput := Lib.hid (put1_new z b (ops L) i i fa (by rw [HLx.out, Hjl.out]; simp [hx2]))
                have t1 : decide (x2 + x3 = fa) = false := decide_eq_false hx2
                have t2 : (x2 + x3 == fa) = false := by rw [beq_eq_false_iff_ne]; exact hx2
                go_wp2_with (go_at_call 38; refine Hfc.out.mono ?_; rintro e4 w4 ⟨rfl, hb4⟩)
                have HB4 : Hid (Below w.heap.size w w4.drew) := Lib.hid (HB.out.trans (hb4.mono HB.out.size)).drew
                have HO4 : Hid (OwnO w4.drew w.heap.size ((.slice (some ⟨gu, 0, none⟩) (k + 1) cu)) L) := Lib.hid (HO.out.keptB hb4.drew)
                have hg4 : wr.heap.size ≤ w4.heap.size := hb4.size
                have Hc0 : Hid (w4.drew.cell? ⟨gu, k * 4, none⟩ = some (.bool true)) := Lib.hid ((hb4.cell (p := ⟨gu, k * 4, none⟩) Hgl.out).trans Hc0.out)
                have Hc1 : Hid (w4.drew.cell? ⟨gu, k * 4 + 1, none⟩ = some (.int .i64 x2)) := Lib.hid ((hb4.cell (p := ⟨gu, k * 4 + 1, none⟩) Hgl.out).trans Hc1.out)
                have Hc2 : Hid (w4.drew.cell? ⟨gu, k * 4 + 2, none⟩ = some (.int .i64 x3)) := Lib.hid ((hb4.cell (p := ⟨gu, k * 4 + 2, none⟩) Hgl.out).trans Hc2.out)
                clear hg4
                clear hb4
                (try go_wp2_with fail)
                refine CanT.region (fun w' => w4.drew = w') 1000 (.op 0 2 (.op 1 2 (.op 2 2 (.op 3 2 (.op 4 2 (.op 5 2 (.op 6 2 (.op 7 2 (.op 8 2 (.op 9 2 (.op 10 2 (.op 11 2 (.op 12 2 (.op 13 1 (.op 14 2 (.op 15 2 (.op 16 2 (.op 17 2 (.op 18 2 (.op 19 2 (.op 20 2 (.op 21 1 (.op 22 2 (.op 23 2 (.op 24 2 (.op 25 2 (.op 26 2 (.op 27 1 (.op 28 2 (.op 29 2 (.op 30 2 (.op 31 2 (.nil))))))))))))))))))))))))))))))))) (by kernel_rfl) (by kernel_rfl) rfl ?_
                generalize w4.drew = W at *
                repeat (first | (refine CanT.skip rfl ?_ (fun K hK => ?_); (focus (go_simp; done)); go_simp; refine hK _ ?_; clear hK K) | (refine CanT.pur rfl ?_ ?_; (focus (go_simp; done)); refine ⟨?_, ?_, ?_⟩; rotate_left; (focus (intro w'; go_simp; rfl)); (focus (intro K hK; go_simp; refine hK _ ?_; clear hK K))) | (refine CanT.cellG rfl ?_ (.bool true) (.bool true) ⟨gu, k * 4, none⟩ (fun w' e => by rw [← e]; exact Hc0.out) ?_ (fun K hK => ?_); (focus (go_simp; done)); (focus (intro w' hc'; go_simp; (try rfl))); go_simp; refine hK _ ?_; clear hK K) | (refine CanT.cellG rfl ?_ (.int .i64 x2) (.int .i64 x2) ⟨gu, k * 4 + 1, none⟩ (fun w' e => by rw [← e]; exact Hc1.out) ?_ (fun K hK => ?_); (focus (go_simp; done)); (focus (intro w' hc'; go_simp; (try rfl))); go_simp; refine hK _ ?_; clear hK K) | (refine CanT.cellG rfl ?_ (.int .i64 x3) (.int .i64 x3) ⟨gu, k * 4 + 2, none⟩ (fun w' e => by rw [← e]; exact Hc2.out) ?_ (fun K hK => ?_); (focus (go_simp; done)); (focus (intro w' hc'; go_simp; (try rfl))); go_simp; refine hK _ ?_; clear hK K))
                refine CanT.done ?_
                have hsl2 := fun w' => sl_lh (P := Tryd.prog) 22 5 i0 Tryd.underlying22 Hi0.out bb o n c (i : Int) (i : Int) i (i - i) rfl (by omega) (by omega) (by omega) w'
                obtain ⟨m2, hm2⟩ : ∃ m2, m2 = i - i := ⟨_, rfl⟩
                rw [← hm2] at hsl2
                have hrd2 : ReadB W w.heap.size (some ⟨bb, o + i, none⟩) (cut b i i) := (((Hr.out.below HB4.out).drop _).take _)
                have hby := rbytes_calls (cut b i i) (some ⟨bb, o + i, none⟩) (i - i) (c - i) (by rw [cut_len b i i (by omega) (by have := Hn.out; omega)]) (by rw [cut_len b i i (by omega) (by have := Hn.out; omega)]; omega) (by rw [cut_len b i i (by omega) (by have := Hn.out; omega)]; omega) W (hrd2.more HB4.out.size)
                rw [← hm2] at hby
                have Hby := Lib.hid hby
                clear hrd2 hby hsl hm2
                go_wp2_with fail
                refine Calls.mono Hby.out ?_
                rintro e5 w5 ⟨v5, M, rfl, ho5, hM5, hb5⟩
                obtain ⟨A5, c5, e5, -, -, q5, -⟩ := ho5.opens
                subst e5
                have hml : M.length ≤ 1 := by rw [← ops_len, hM5]; exact whole_len _
                have HO5 := Lib.hid (HO4.out.keptB hb5)
                have HM5 := Lib.hid ho5
                have HE5 := Lib.hid hM5
                have HB5 := Lib.hid (HB4.out.trans (hb5.mono HB4.out.size))
                have HQ5 := Lib.hid q5
                have Hml := Lib.hid hml
                have Hs5 : Hid (w.heap.size ≤ w5.heap.size) := Lib.hid HB5.out.size
                clear ho5 hM5 hb5 q5 hml hsl2
                go_wp2_with (first
                  | (at_builtin; go_loud (refine wpList_appR _ rfl (.tmp 79) (.tmp 84) 31 rfl w.heap.size 40 iO 48 Tryd.underlying31 Hi.out (by omega) _ L rfl HO5.out.1 w5.heap.size A5 M.length c5 M rfl rfl HQ5.out.1 (by have := HLl.out; have := Hml.out; omega) (by have := HLl.out; have := Hml.out; omega) Hs5.out ?_); intro v6 w6 ho6 hg6 _ hb6; have HO6 := Lib.hid (app_new HO5.out HM5.out ho6 hg6); have HB6 := Lib.hid (HB5.out.trans hb6); clear ho6 hg6 hb6)
                  | (refine wpList_bslice _ rfl 31 40 1 _ rfl Tryd.underlying31 iO 4 48 Hi.out (by omega) (by omega) [(0, .agg #[.bool true, .int .i64 fa, .int .i64 (z : Int), .slice none 0 0])] rfl [.bool true, .int .i64 fa, .int .i64 (z : Int), .slice none 0 0] (fun Z hZ => fill_one 4 (.agg #[.bool true, .int .i64 fa, .int .i64 (z : Int), .slice none 0 0]) rfl Z hZ) ?_)
                  | (at_builtin; go_loud (refine wpList_appR _ rfl (.tmp 86) (.tmp 90) 31 rfl w.heap.size 40 iO 48 Tryd.underlying31 Hi.out (by omega) v6 (L ++ M) rfl (HO6.out.alloc _).1 (w6.heap.size + 1) (some ⟨w6.heap.size, 0, none⟩) 1 1 [(cp fa z, none, 0)] rfl rfl (lit_op1 w6 fa z) (by have := HLl.out; have := Hml.out; simp; omega) (by have := HLl.out; have := Hml.out; simp; omega) (Nat.le_trans HB6.out.size (by simp)) ?_); intro v7 w7 ho7 hg7 _ hb7; have HO7 := Lib.hid (app_copy2 HO6.out hfb (by omega) ho7 hg7); have HB7 := Lib.hid ((HB6.out.alloc HB6.out.size _).trans hb7); clear ho7 hg7 hb7))
                have HE7 : Hid (ops (L ++ M ++ [(cp fa z, none, 0)]) = Tm.put1 z b (ops L) i i fa) := Lib.hid (by rw [ops_app, ops_app, HE5.out, Hput.out]; rfl)
                have hs7 : Small (ops (L ++ M ++ [(cp fa z, none, 0)])) (i + z) := by rw [HE7.out]; exact Hsm.out.put1 (by omega) hfb
                have hl7 : (L ++ M ++ [(cp fa z, none, 0)]).length ≤ 2 * (i + z) := by
                  have h1 := put1_len (z := z) (b := b) (out := ops L) (frm := i) (i := i) (a := fa)
                  rw [← HE7.out, ops_len, ops_len] at h1
                  have := HLl.out
                  omega
                have hr7 : Tm.rest F z b (ops (L ++ M ++ [(cp fa z, none, 0)])) (i + z) (i + z) = R := by rw [HE7.out]; first | exact Hhit.out rfl | exact Hhit.out trivial
                have Hs7 := Lib.hid hs7
                have Hl7 := Lib.hid hl7
                have Hr7 := Lib.hid hr7
                clear hs7 hl7 hr7
                (try go_wp2_with fail)
                go_roundg (n + 1 - (i + z))
                case rel => exact ⟨i + z, i + z, _, rfl, by first | rfl | simp, by first | rfl | simp, Nat.le_refl _, hb, HO7.out, Hr7.out, Hs7.out, Hl7.out, HB7.out⟩
                case measure => have := Hq.out; omega
        · have Hput := Lib.hid (put1_new z b (ops L) frm i fa (joins_ne _ _ _ _ (fun e => hne e.symm)))
          have t1 : ((frm : Int) == (i : Int)) = false := by rw [beq_eq_false_iff_ne]; omega
          have t2 : decide ((frm : Int) = (i : Int)) = false := decide_eq_false (by omega)
          have t3 : ¬ (frm : Int) = (i : Int) := by omega
          obtain ⟨A0, n0, c0, hu⟩ := own_sl HO.out
          subst hu
          go_wp2_with (go_at_call 38; refine Hfc.out.mono ?_; rintro e4 w4 ⟨rfl, hb4⟩)
          have HB4 : Hid (Below w.heap.size w w4.drew) := Lib.hid (HB.out.trans (hb4.mono HB.out.size)).drew
          have HO4 : Hid (OwnO w4.drew w.heap.size (.slice A0 n0 c0) L) := Lib.hid (HO.out.keptB hb4.drew)
          skip
          clear hb4
          (try go_wp2_with fail)
          refine CanT.region (fun w' => w4.drew = w') 1000 (.op 0 2 (.op 1 2 (.op 2 2 (.op 3 2 (.op 4 2 (.op 5 2 (.op 6 2 (.op 7 2 (.op 8 2 (.op 9 2 (.op 10 2 (.op 11 2 (.op 12 2 (.op 13 1 (.op 14 2 (.op 15 2 (.op 16 2 (.op 17 2 (.op 18 2 (.op 19 2 (.op 20 2 (.op 21 1 (.op 22 2 (.op 23 2 (.op 24 2 (.op 25 2 (.op 26 2 (.op 27 1 (.op 28 2 (.op 29 2 (.op 30 2 (.op 31 2 (.nil))))))))))))))))))))))))))))))))) (by kernel_rfl) (by kernel_rfl) rfl ?_
          generalize w4.drew = W at *
          repeat (first | (refine CanT.skip rfl ?_ (fun K hK => ?_); (focus (go_simp; done)); go_simp; refine hK _ ?_; clear hK K) | (refine CanT.pur rfl ?_ ?_; (focus (go_simp; done)); refine ⟨?_, ?_, ?_⟩; rotate_left; (focus (intro w'; go_simp; rfl)); (focus (intro K hK; go_simp; refine hK _ ?_; clear hK K))))
          refine CanT.done ?_
          have hsl2 := fun w' => sl_lh (P := Tryd.prog) 22 5 i0 Tryd.underlying22 Hi0.out bb o n c (frm : Int) (i : Int) frm (i - frm) rfl (by omega) (by omega) (by omega) w'
          obtain ⟨m2, hm2⟩ : ∃ m2, m2 = i - frm := ⟨_, rfl⟩
          rw [← hm2] at hsl2
          have hrd2 : ReadB W w.heap.size (some ⟨bb, o + frm, none⟩) (cut b frm i) := (((Hr.out.below HB4.out).drop _).take _)
          have hby := rbytes_calls (cut b frm i) (some ⟨bb, o + frm, none⟩) (i - frm) (c - frm) (by rw [cut_len b frm i (by omega) (by have := Hn.out; omega)]) (by rw [cut_len b frm i (by omega) (by have := Hn.out; omega)]; omega) (by rw [cut_len b frm i (by omega) (by have := Hn.out; omega)]; omega) W (hrd2.more HB4.out.size)
          rw [← hm2] at hby
          have Hby := Lib.hid hby
          clear hrd2 hby hsl hm2
          go_wp2_with fail
          refine Calls.mono Hby.out ?_
          rintro e5 w5 ⟨v5, M, rfl, ho5, hM5, hb5⟩
          obtain ⟨A5, c5, e5, -, -, q5, -⟩ := ho5.opens
          subst e5
          have hml : M.length ≤ 1 := by rw [← ops_len, hM5]; exact whole_len _
          have HO5 := Lib.hid (HO4.out.keptB hb5)
          have HM5 := Lib.hid ho5
          have HE5 := Lib.hid hM5
          have HB5 := Lib.hid (HB4.out.trans (hb5.mono HB4.out.size))
          have HQ5 := Lib.hid q5
          have Hml := Lib.hid hml
          have Hs5 : Hid (w.heap.size ≤ w5.heap.size) := Lib.hid HB5.out.size
          clear ho5 hM5 hb5 q5 hml hsl2
          go_wp2_with (first
            | (at_builtin; go_loud (refine wpList_appR _ rfl (.tmp 79) (.tmp 84) 31 rfl w.heap.size 40 iO 48 Tryd.underlying31 Hi.out (by omega) _ L rfl HO5.out.1 w5.heap.size A5 M.length c5 M rfl rfl HQ5.out.1 (by have := HLl.out; have := Hml.out; omega) (by have := HLl.out; have := Hml.out; omega) Hs5.out ?_); intro v6 w6 ho6 hg6 _ hb6; have HO6 := Lib.hid (app_new HO5.out HM5.out ho6 hg6); have HB6 := Lib.hid (HB5.out.trans hb6); clear ho6 hg6 hb6)
            | (refine wpList_bslice _ rfl 31 40 1 _ rfl Tryd.underlying31 iO 4 48 Hi.out (by omega) (by omega) [(0, .agg #[.bool true, .int .i64 fa, .int .i64 (z : Int), .slice none 0 0])] rfl [.bool true, .int .i64 fa, .int .i64 (z : Int), .slice none 0 0] (fun Z hZ => fill_one 4 (.agg #[.bool true, .int .i64 fa, .int .i64 (z : Int), .slice none 0 0]) rfl Z hZ) ?_)
            | (at_builtin; go_loud (refine wpList_appR _ rfl (.tmp 86) (.tmp 90) 31 rfl w.heap.size 40 iO 48 Tryd.underlying31 Hi.out (by omega) v6 (L ++ M) rfl (HO6.out.alloc _).1 (w6.heap.size + 1) (some ⟨w6.heap.size, 0, none⟩) 1 1 [(cp fa z, none, 0)] rfl rfl (lit_op1 w6 fa z) (by have := HLl.out; have := Hml.out; simp; omega) (by have := HLl.out; have := Hml.out; simp; omega) (Nat.le_trans HB6.out.size (by simp)) ?_); intro v7 w7 ho7 hg7 _ hb7; have HO7 := Lib.hid (app_copy2 HO6.out hfb (by omega) ho7 hg7); have HB7 := Lib.hid ((HB6.out.alloc HB6.out.size _).trans hb7); clear ho7 hg7 hb7))
          have HE7 : Hid (ops (L ++ M ++ [(cp fa z, none, 0)]) = Tm.put1 z b (ops L) frm i fa) := Lib.hid (by rw [ops_app, ops_app, HE5.out, Hput.out]; rfl)
          have hs7 : Small (ops (L ++ M ++ [(cp fa z, none, 0)])) (i + z) := by rw [HE7.out]; exact Hsm.out.put1 (by omega) hfb
          have hl7 : (L ++ M ++ [(cp fa z, none, 0)]).length ≤ 2 * (i + z) := by
            have h1 := put1_len (z := z) (b := b) (out := ops L) (frm := frm) (i := i) (a := fa)
            rw [← HE7.out, ops_len, ops_len] at h1
            have := HLl.out
            omega
          have hr7 : Tm.rest F z b (ops (L ++ M ++ [(cp fa z, none, 0)])) (i + z) (i + z) = R := by rw [HE7.out]; first | exact Hhit.out rfl | exact Hhit.out trivial
          have Hs7 := Lib.hid hs7
          have Hl7 := Lib.hid hl7
          have Hr7 := Lib.hid hr7
          clear hs7 hl7 hr7
          (try go_wp2_with fail)
          go_roundg (n + 1 - (i + z))
          case rel => exact ⟨i + z, i + z, _, rfl, by first | rfl | simp, by first | rfl | simp, Nat.le_refl _, hb, HO7.out, Hr7.out, Hs7.out, Hl7.out, HB7.out⟩
          case measure => have := Hq.out; omega
    · have t1 : decide ((i : Int) + (z : Int) ≤ (n : Int)) = false := decide_eq_false (by omega)
      have HRE : Hid (R = (ops L, frm)) := Lib.hid (by rw [← Hrest.out]; exact rest_end F z b (ops L) frm i (by have := Hn.out; omega))
      obtain ⟨A2, hA2⟩ : ∃ A2, A2 = if c = frm then A else A.map (·.add frm) := ⟨_, rfl⟩
      have hsl2 := fun w' => sl_l (P := Tryd.prog) 22 5 i0 Tryd.underlying22 Hi0.out A n c (frm : Int) frm rfl (by omega) w'
      rw [← hA2] at hsl2
      have hrd2 : ReadB wr w.heap.size A2 (b.drop frm) := by rw [hA2]; exact (Hr.out.below HB.out).cut (by have := Hn.out; omega)
      have hby := rbytes_calls (b.drop frm) A2 (n - frm) (c - frm) (by rw [List.length_drop, Hn.out]) (by rw [List.length_drop]; have := Hn.out; omega) (by rw [List.length_drop]; have := Hn.out; omega) wr (hrd2.more HB.out.size)
      have Hby := Lib.hid hby
      clear hrd2 hby hA2
      go_wp2_with fail
      refine Calls.mono Hby.out ?_
      rintro e5 w5 ⟨v5, M, rfl, ho5, hM5, hb5⟩
      obtain ⟨A5, c5, e5, -, -, q5, -⟩ := ho5.opens
      subst e5
      have hml : M.length ≤ 1 := by rw [← ops_len, hM5]; exact whole_len _
      have HO5 := Lib.hid (HO.out.keptB hb5)
      have HM5 := Lib.hid ho5
      have HB5 := Lib.hid (HB.out.trans (hb5.mono HB.out.size))
      have HQ5 := Lib.hid q5
      have Hml := Lib.hid hml
      have Hs5 : Hid (w.heap.size ≤ w5.heap.size) := Lib.hid HB5.out.size
      have Hfin : Hid (ops (L ++ M) = search F z b) := Lib.hid (by rw [Hse.out, HRE.out, fin_small b (ops L) frm (by rw [ops_len]; have := HLl.out; omega), ops_app, hM5])
      clear ho5 hM5 hb5 q5 hml hsl2
      go_wp2_with (at_builtin; go_loud (refine wpList_appR _ rfl (.tmp 96) (.tmp 100) 31 rfl w.heap.size 40 iO 48 Tryd.underlying31 Hi.out (by omega) _ L rfl HO5.out.1 w5.heap.size A5 M.length c5 M rfl rfl HQ5.out.1 (by have := HLl.out; have := Hml.out; omega) (by have := HLl.out; have := Hml.out; omega) Hs5.out ?_); intro v6 w6 ho6 hg6 _ hb6; have HO6 := Lib.hid (app_new HO5.out HM5.out ho6 hg6); have HB6 := Lib.hid (HB5.out.trans hb6); obtain ⟨A6, c6, e6, -⟩ := HO6.out.opens; subst e6; obtain ⟨N6, hN6⟩ : ∃ N6, N6 = (L ++ M).length := ⟨_, rfl⟩; have hN4 : N6 ≤ 4096 := (by rw [hN6, List.length_append]; have := HLl.out; have := Hml.out; omega); rw [← hN6] at HO6 ⊢; have HN6 := Lib.hid hN6; have t9 : decide (4096 < (N6 : Int)) = false := decide_eq_false (by omega); clear ho6 hg6 hb6 hN6)
      go_ret
      exact ⟨_, L ++ M, rfl, HO6.out, Hfin.out, HB6.out⟩
end Ms
end Go.Proofs.YtiofkhjpknfkgaaDoor

/- The walk of the statement that any calls take off any bytes what the document says. -/
import Derived.Test.YtldhplanpnddbaaFlaws
import Derived.Test.YtldhplanpnddbaaSlc
import Derived.Test.YtldhplanpnddbaaCanL
import Derived.Deep.CutBlock
import Derived.Deep.CutRange
namespace Go.Proofs.Ytldhplanpnddbaa
namespace Fl
open Go.RowKit Ba Vm Fm Vi
set_option linter.unusedVariables false

/-- the reference's reader in a block of its own -/
def IsX (w : World) (g B : Nat) (r : Rd) : Prop :=
  ∃ A c, w.heap[g]? = some (.cells #[.slice A r.l.length c, .int .i64 r.e] 52 (0, 0)) ∧ r.l.length ≤ c ∧ c ≤ 9223372036854775807 ∧ ReadB w B A r.l ∧ B ≤ g
theorem IsX.lt {w : World} {g B : Nat} {r : Rd} (h : IsX w g B r) : g < w.heap.size := by
  obtain ⟨A, c, h, _⟩ := h
  rcases Nat.lt_or_ge g w.heap.size with hlt | hge
  · exact hlt
  · rw [Array.getElem?_eq_none hge] at h; cases h
theorem IsX.below {w w' : World} {g B : Nat} {r : Rd} (h : IsX w g B r) (hb : Below w.heap.size w w') : IsX w' g B r := by
  have hlt := h.lt
  obtain ⟨A, c, h1, h2, h3, h4, h5⟩ := h
  exact ⟨A, c, (hb.block g hlt).trans h1, h2, h3, h4.below (hb.mono (by omega)), h5⟩
theorem IsX.other {w w' : World} {g B k : Nat} {r : Rd} (h : IsX w g B r) (hg : w.grownBy w' (some k)) (hk : g ≠ k) (hB : B ≤ k) : IsX w' g B r := by
  have hlt := h.lt
  obtain ⟨A, c, h1, h2, h3, h4, h5⟩ := h
  exact ⟨A, c, (hg.block g hlt (by simp; omega)).trans h1, h2, h3, h4.below (below_of_only hg hB (by omega)), h5⟩
/-- a new reader's result is put where the old one stood -/
theorem IsX.put {w : World} {g B : Nat} {x y : Value} {A : Option Addr} {c : Nat} {r : Rd} (h : w.heap[g]? = some (.cells #[x, y] 52 (0, 0))) (h2 : r.l.length ≤ c) (h3 : c ≤ 9223372036854775807) (h4 : ReadB w B A r.l) (h5 : B ≤ g) :
    IsX ((w.setCell ⟨g, 0, none⟩ (.slice A r.l.length c)).setCell ⟨g, 1, none⟩ (.int .i64 r.e)) g B r :=
  ⟨A, c, Re.set1 (Re.set0 h), h2, h3, (h4.setFar h5 _).setFar h5 _, h5⟩
theorem only_put {w : World} {g : Nat} {u v : Value} : w.grownBy ((w.setCell ⟨g, 0, none⟩ u).setCell ⟨g, 1, none⟩ v) (some g) := only_trans (only_set w g 0 u) (only_set _ g 1 v)

theorem own_empty (w : World) (E : TypeId) : OwnB (w.alloc (.cells #[] E)) w.heap.size E (.slice (some ⟨w.heap.size, 0, none⟩) 0 0) [] := by
  have h := World.ownsRow_lit (e := E) (size := 1) (base := w.heap.size) w #[] 0 (Nat.le_refl _) (Nat.zero_le _) (by simp)
  unfold OwnB
  simpa [bvs] using h

set_option maxRecDepth 100000 in
set_option maxHeartbeats 6400000 in
theorem takes_calls (l : List UInt8) (A : Option Addr) (c : Nat) (hlc : l.length ≤ c) (hcm : c ≤ 9223372036854775807) (ks : List (Int × Int)) (Ak : Option Addr) (ck : Nat) (hkl : ks.length ≤ ck) (hkm : ck ≤ 9223372036854775807)
    (hks : ∀ p ∈ ks, (0 ≤ p.1 ∧ p.1 ≤ 255) ∧ -9223372036854775808 ≤ p.2 ∧ p.2 ≤ 9223372036854775807) (w : World) (hr : ReadB w w.heap.size A l) (hrk : ReadP w w.heap.size Ak ks) :
    Calls Try.prog 10 #[.slice A l.length c, .slice Ak ks.length ck] w fun e w' => e = .returned (.bool true) ∧ Below w.heap.size w w' := by
  have fin : ∀ W, Below w.heap.size w W → Calls Try.prog 25 #[] W fun e w' => e = .returned (.bool true) ∧ Below w.heap.size w w' := fun W hW => (awake2_calls W).mono fun e w' ⟨h1, h2⟩ => ⟨h1, bthen hW h2⟩
  have Hf := Lib.hid fin
  obtain ⟨i0, hi0⟩ := isByte_of info5
  have Hi := Lib.hid hi0
  have Hr := Lib.hid hr
  have Hrk := Lib.hid hrk
  have Hks := Lib.hid hks
  clear fin hi0 hr hrk hks
  by_cases h1 : 4000 < l.length
  · go_enter Try.func10, Try.ntmps10
    go_wp2_with (go_at_call 25; refine (Hf.out _ (Below.refl _ _)).mono ?_; rintro e w5 ⟨rfl, hb5⟩)
    go_ret
    exact ⟨rfl, hb5⟩
  · by_cases h2 : 200 < ks.length
    · go_enter Try.func10, Try.ntmps10
      go_wp2_with (go_at_call 25; refine (Hf.out _ (Below.refl _ _)).mono ?_; rintro e w5 ⟨rfl, hb5⟩)
      go_ret
      exact ⟨rfl, hb5⟩
    · go_enter Try.func10, Try.ntmps10
      have hown0 : OwnB (w.alloc (.cells #[] 5)) w.heap.size 5 (.slice (some ⟨w.heap.size, 0, none⟩) 0 0) [] := own_empty w 5
      have hr0 : ReadB (w.alloc (.cells #[] 5)) w.heap.size A l := Hr.out.alloc (Nat.le_refl _) _
      go_wp2_with (at_builtin; go_loud (refine wpList_appB _ rfl (.tmp 22) (.tmp 23) 25 rfl w.heap.size 5 i0 Try.underlying25 Hi.out _ [] rfl hown0 w.heap.size A _ c l rfl rfl hr0 (by simp; omega) (by simp) ?_); intro v1 w1 ho1 _ _ hb1)
      rw [List.nil_append] at ho1
      obtain ⟨A1, c1, rfl, hl1, hm1, k1, _⟩ := ho1.opens
      have Hb1 := Lib.hid (((Below.refl w.heap.size w).alloc (Nat.le_refl _) (.cells #[] 5)).trans hb1)
      clear hb1 ho1 hown0 hr0
      refine (Re.new_calls l A1 c1 w1 k1 hl1 hm1).mono ?_
      rintro e w2 ⟨rfl, hr2, hb2⟩
      have Hb2 := Lib.hid (bthen Hb1.out hb2)
      have Hg := Lib.hid Hb1.out.size
      generalize hgr : w1.heap.size = g at *
      clear hb2 k1
      go_wp2_with fail
      have hx2 : IsX ((w2.alloc (.cells #[.slice A l.length c, .int .i64 0] 52))) w2.heap.size w.heap.size ⟨l, 0⟩ :=
        ⟨A, c, heap_alloc_new w2 _, hlc, hcm, Hr.out.below (Hb2.out.alloc Hb2.out.size _), Hb2.out.size⟩
      have hr3 := hr2.below ((Below.refl w2.heap.size w2).alloc (Nat.le_refl _) (.cells #[.slice A l.length c, .int .i64 0] 52))
      have Hb3 := Lib.hid (Hb2.out.alloc Hb2.out.size (.cells #[.slice A l.length c, .int .i64 0] 52))
      have hgx := hr2.lt
      have Hgx := Lib.hid Hb2.out.size
      generalize hW : (w2.alloc (.cells #[.slice A l.length c, .int .i64 0] 52)) = w3 at hx2 hr3 Hb3
      generalize hgx2 : w2.heap.size = gx at *
      have hggx : g < gx := hgx
      clear hW hr2 Hb2 hgx Hb1 hgr hgx2
      go_loopw [7] (fun i wr => ∃ (k : Nat) (r : Rd), k ≤ ks.length ∧ i = .int .i64 k ∧ Re.IsR wr g g r ∧ IsX wr gx w.heap.size r ∧ Below w.heap.size w wr) (fun i _ => ks.length - (intOf i).toNat)
      case atStart => exact ⟨0, ⟨l, 0⟩, Nat.zero_le _, rfl, hr3, hx2, Hb3.out⟩
      case round =>
        obtain ⟨k, r, hk, rfl, hR, hX, hB⟩ := hrel
        by_cases hkl : k < ks.length
        · obtain ⟨b, o, rfl, hb, hc⟩ := Hrk.out (by omega)
          obtain ⟨hc0, hc1⟩ := hc k hkl
          have hbd := Hks.out (ks.getD k (0, 0)) (by simp [List.getD, hkl])
          have HB := Lib.hid hB
          have Hb := Lib.hid hb
          obtain ⟨kd, n, hkn⟩ : ∃ a b, ks.getD k (0, 0) = (a, b) := ⟨_, _, rfl⟩
          rw [hkn] at hc0 hc1 hbd
          simp only at hc0 hc1 hbd
          have hq0 := (hB.cell (p := ⟨b, o + k * 2, none⟩) hb).trans hc0
          have hq1 := (hB.cell (p := ⟨b, o + k * 2 + 1, none⟩) hb).trans hc1
          have Hc1 := Lib.hid hc1
          obtain ⟨⟨hk0, hk255⟩, hn⟩ := hbd
          clear hc0 hc1 hc hkn hb hB
          go_upto_block 2 with fail
          go_cut [8, 9, 10, 11, 12] from 28 to 135 (fun ok a1 a2 a3 a4 wx => ok = .bool true ∧ ∃ r', Re.IsR wx g g r' ∧ IsX wx gx w.heap.size r' ∧ Below w.heap.size w wx)
          case first =>
            have hm4 : kd % 4 = 0 ∨ kd % 4 = 1 ∨ kd % 4 = 2 ∨ kd % 4 = 3 := by omega
            rcases hm4 with hm4 | hm4 | hm4 | hm4
            · go_wp2_with fail
              have hX0 := hX
              obtain ⟨AX, cX, hXh, hX2, hX3, hX4, hX5⟩ := hX
              obtain ⟨y0, y1, y2, y3⟩ := Re.blk_cell hXh
              have hXlt : gx < wr.drew.heap.size := hX0.lt
              have hXhd : wr.drew.heap[gx]? = _ := hXh
              have hX4d : ReadB wr.drew w.heap.size AX r.l := hX4
              have HBd := Lib.hid HB.out.drew
              have hRd : Re.IsR wr.drew g g r := hR
              refine CanL.region (fun w' => w'.cell? ⟨gx, 0, none⟩ = some (.slice AX r.l.length cX) ∧ w'.cell? ⟨gx, 1, none⟩ = some (.int .i64 r.e) ∧ w'.cell? ⟨b, o + k * 2 + 1, none⟩ = some (.int .i64 n)) 10 [(0, 1), (1, 2), (2, 2), (3, 2), (4, 2), (5, 1), (6, 0), (7, 2), (8, 2), (9, 2), (10, 0), (11, 2)] (by kernel_rfl) (by kernel_rfl) ⟨y0, y1, hq1⟩ ?_
              generalize wr.drew = W at *
              clear y0 y1 y2 y3 hq1 hXh hX4 hX0 HB hR
              repeat (first | (refine CanL.skip rfl ?_ (fun K hK => ?_); (focus (go_simp; done)); go_simp; refine hK _ ?_; clear hK K) | (refine CanL.pur rfl ?_ ?_; (focus (go_simp; done)); refine ⟨?_, ?_, ?_⟩; rotate_left; (focus (intro w'; go_simp; rfl)); (focus (intro K hK; go_simp; refine hK _ ?_; clear hK K))) | (refine CanL.held rfl ?_ ?_; (focus (go_simp; done)); refine ⟨?_, ?_, ?_⟩; rotate_left; (focus (intro w' hS'; (try dsimp only at hS'); go_simp; rfl)); (focus (intro K hK; go_simp; refine hK _ ?_; clear hK K))) | (refine CanL.last rfl (fun K hK => ?_); go_simp; refine hK.out _ _ ?_; clear hK K) | (refine CanL.imp rfl (fun K hK => ?_); go_simp; (first | (go_at_call 33; go_must (refine (Fr.rnum_calls w.heap.size (.agg #[.slice AX r.l.length cX, .int .i64 r.e]) r n _ ⟨AX, cX, rfl, hX2, hX3, hX4d⟩ (by have := HBd.out.size; simpa using this)).mono ?_; rintro e w6 ⟨v6, rfl, ⟨A6, c6, rfl, z2, z3, z4⟩, hb6⟩); have hh6 := (hb6.block gx hXlt).trans hXhd; obtain ⟨p0, p1, p2, p3⟩ := Re.blk_cell hh6; have hB6 := Lib.hid (bthen HBd.out hb6); have hR6 := hRd.below hb6; have hq6 := (hB6.out.cell (p := ⟨b, o + k * 2 + 1, none⟩) Hb.out).trans Hc1.out)); go_simp; refine hK.out _ _ (⟨p0, p1, hq6⟩) ?_; clear hK K))
              refine CanL.done ?_
              have hX7 := IsX.put (r := (r.num n).1) hh6 z2 z3 z4 hX5
              have hg7 : w6.grownBy _ (some gx) := only_put (w := w6) (g := gx) (u := .slice A6 (r.num n).1.l.length c6) (v := .int .i64 (r.num n).1.e)
              have hR7 := hR6.other hg7 hggx
              have hB7 := Lib.hid (hB6.out.trans (below_of_only hg7 (Nat.le_trans Hg.out (Nat.le_of_lt hggx)) hB6.out.size))
              have hq7 := (hB7.out.cell (p := ⟨b, o + k * 2 + 1, none⟩) Hb.out).trans Hc1.out
              generalize ((w6.setCell ⟨gx, 0, none⟩ (.slice A6 (r.num n).1.l.length c6)).setCell ⟨gx, 1, none⟩ (.int .i64 (r.num n).1.e)) = w7 at *
              clear hg7 hh6 p0 p1 p2 p3 hR6 hB6 z2 z3 z4 hq6
              go_wp2_with fail
              refine (Re.num_calls g g r n w7 hR7).mono ?_
              rintro e w8 ⟨rfl, hR8, hg8⟩
              have hX8 := hX7.other hg8 (by omega) Hg.out
              have hB8 := Lib.hid (hB7.out.trans (below_of_only hg8 Hg.out hB7.out.size))
              go_wp2
              go_meet
              exact ⟨rfl, _, hR8, hX8, hB8.out⟩
            · go_wp2_with fail
              have hX0 := hX
              obtain ⟨AX, cX, hXh, hX2, hX3, hX4, hX5⟩ := hX
              obtain ⟨y0, y1, y2, y3⟩ := Re.blk_cell hXh
              have hXlt : gx < wr.drew.heap.size := hX0.lt
              have hXhd : wr.drew.heap[gx]? = _ := hXh
              have hX4d : ReadB wr.drew w.heap.size AX r.l := hX4
              have HBd := Lib.hid HB.out.drew
              have hRd : Re.IsR wr.drew g g r := hR
              refine CanL.region (fun w' => w'.cell? ⟨gx, 0, none⟩ = some (.slice AX r.l.length cX) ∧ w'.cell? ⟨gx, 1, none⟩ = some (.int .i64 r.e) ∧ w'.cell? ⟨b, o + k * 2 + 1, none⟩ = some (.int .i64 n)) 10 [(0, 1), (1, 2), (2, 2), (3, 2), (4, 2), (5, 1), (6, 0), (7, 2), (8, 2), (9, 2), (10, 0), (11, 2)] (by kernel_rfl) (by kernel_rfl) ⟨y0, y1, hq1⟩ ?_
              generalize wr.drew = W at *
              clear y0 y1 y2 y3 hq1 hXh hX4 hX0 HB hR
              repeat (first | (refine CanL.skip rfl ?_ (fun K hK => ?_); (focus (go_simp; done)); go_simp; refine hK _ ?_; clear hK K) | (refine CanL.pur rfl ?_ ?_; (focus (go_simp; done)); refine ⟨?_, ?_, ?_⟩; rotate_left; (focus (intro w'; go_simp; rfl)); (focus (intro K hK; go_simp; refine hK _ ?_; clear hK K))) | (refine CanL.held rfl ?_ ?_; (focus (go_simp; done)); refine ⟨?_, ?_, ?_⟩; rotate_left; (focus (intro w' hS'; (try dsimp only at hS'); go_simp; rfl)); (focus (intro K hK; go_simp; refine hK _ ?_; clear hK K))) | (refine CanL.last rfl (fun K hK => ?_); go_simp; refine hK.out _ _ ?_; clear hK K) | (refine CanL.imp rfl (fun K hK => ?_); go_simp; (first | (go_at_call 35; go_must (refine (Fr.rtext_calls w.heap.size (.agg #[.slice AX r.l.length cX, .int .i64 r.e]) r n _ ⟨AX, cX, rfl, hX2, hX3, hX4d⟩ (by have := HBd.out.size; simpa using this)).mono ?_; rintro e w6 ⟨v6, rfl, ⟨A6, c6, rfl, z2, z3, z4⟩, hb6⟩); have hh6 := (hb6.block gx hXlt).trans hXhd; obtain ⟨p0, p1, p2, p3⟩ := Re.blk_cell hh6; have hB6 := Lib.hid (bthen HBd.out hb6); have hR6 := hRd.below hb6; have hq6 := (hB6.out.cell (p := ⟨b, o + k * 2 + 1, none⟩) Hb.out).trans Hc1.out)); go_simp; refine hK.out _ _ (⟨p0, p1, hq6⟩) ?_; clear hK K))
              refine CanL.done ?_
              have hX7 := IsX.put (r := (r.text n).1) hh6 z2 z3 z4 hX5
              have hg7 : w6.grownBy _ (some gx) := only_put (w := w6) (g := gx) (u := .slice A6 (r.text n).1.l.length c6) (v := .int .i64 (r.text n).1.e)
              have hR7 := hR6.other hg7 hggx
              have hB7 := Lib.hid (hB6.out.trans (below_of_only hg7 (Nat.le_trans Hg.out (Nat.le_of_lt hggx)) hB6.out.size))
              have hq7 := (hB7.out.cell (p := ⟨b, o + k * 2 + 1, none⟩) Hb.out).trans Hc1.out
              generalize ((w6.setCell ⟨gx, 0, none⟩ (.slice A6 (r.text n).1.l.length c6)).setCell ⟨gx, 1, none⟩ (.int .i64 (r.text n).1.e)) = w7 at *
              clear hg7 hh6 p0 p1 p2 p3 hR6 hB6 z2 z3 z4 hq6
              go_wp2_with fail
              refine (Re.text_calls g g r n w7 hR7).mono ?_
              rintro e w8 ⟨rfl, hR8, hg8⟩
              have hX8 := hX7.other hg8 (by omega) Hg.out
              have hB8 := Lib.hid (hB7.out.trans (below_of_only hg8 Hg.out hB7.out.size))
              go_wp2
              go_meet
              exact ⟨rfl, _, hR8, hX8, hB8.out⟩
            · go_wp2_with fail
              have hX0 := hX
              obtain ⟨AX, cX, hXh, hX2, hX3, hX4, hX5⟩ := hX
              obtain ⟨y0, y1, y2, y3⟩ := Re.blk_cell hXh
              have hXlt : gx < wr.drew.heap.size := hX0.lt
              have hXhd : wr.drew.heap[gx]? = _ := hXh
              have hX4d : ReadB wr.drew w.heap.size AX r.l := hX4
              have HBd := Lib.hid HB.out.drew
              have hRd : Re.IsR wr.drew g g r := hR
              refine CanL.region (fun w' => w'.cell? ⟨gx, 0, none⟩ = some (.slice AX r.l.length cX) ∧ w'.cell? ⟨gx, 1, none⟩ = some (.int .i64 r.e) ∧ w'.cell? ⟨b, o + k * 2 + 1, none⟩ = some (.int .i64 n)) 10 [(0, 1), (1, 2), (2, 2), (3, 2), (4, 2), (5, 1), (6, 0), (7, 2), (8, 2), (9, 2), (10, 0), (11, 2)] (by kernel_rfl) (by kernel_rfl) ⟨y0, y1, hq1⟩ ?_
              generalize wr.drew = W at *
              clear y0 y1 y2 y3 hq1 hXh hX4 hX0 HB hR
              repeat (first | (refine CanL.skip rfl ?_ (fun K hK => ?_); (focus (go_simp; done)); go_simp; refine hK _ ?_; clear hK K) | (refine CanL.pur rfl ?_ ?_; (focus (go_simp; done)); refine ⟨?_, ?_, ?_⟩; rotate_left; (focus (intro w'; go_simp; rfl)); (focus (intro K hK; go_simp; refine hK _ ?_; clear hK K))) | (refine CanL.held rfl ?_ ?_; (focus (go_simp; done)); refine ⟨?_, ?_, ?_⟩; rotate_left; (focus (intro w' hS'; (try dsimp only at hS'); go_simp; rfl)); (focus (intro K hK; go_simp; refine hK _ ?_; clear hK K))) | (refine CanL.last rfl (fun K hK => ?_); go_simp; refine hK.out _ _ ?_; clear hK K) | (refine CanL.imp rfl (fun K hK => ?_); go_simp; (first | (go_at_call 37; go_must (refine (Fr.rraw_calls w.heap.size (.agg #[.slice AX r.l.length cX, .int .i64 r.e]) r n _ ⟨AX, cX, rfl, hX2, hX3, hX4d⟩ (by have := HBd.out.size; simpa using this)).mono ?_; rintro e w6 ⟨v6, rfl, ⟨A6, c6, rfl, z2, z3, z4⟩, hb6⟩); have hh6 := (hb6.block gx hXlt).trans hXhd; obtain ⟨p0, p1, p2, p3⟩ := Re.blk_cell hh6; have hB6 := Lib.hid (bthen HBd.out hb6); have hR6 := hRd.below hb6; have hq6 := (hB6.out.cell (p := ⟨b, o + k * 2 + 1, none⟩) Hb.out).trans Hc1.out)); go_simp; refine hK.out _ _ (⟨p0, p1, hq6⟩) ?_; clear hK K))
              refine CanL.done ?_
              have hX7 := IsX.put (r := (r.raw n).1) hh6 z2 z3 z4 hX5
              have hg7 : w6.grownBy _ (some gx) := only_put (w := w6) (g := gx) (u := .slice A6 (r.raw n).1.l.length c6) (v := .int .i64 (r.raw n).1.e)
              have hR7 := hR6.other hg7 hggx
              have hB7 := Lib.hid (hB6.out.trans (below_of_only hg7 (Nat.le_trans Hg.out (Nat.le_of_lt hggx)) hB6.out.size))
              have hq7 := (hB7.out.cell (p := ⟨b, o + k * 2 + 1, none⟩) Hb.out).trans Hc1.out
              generalize ((w6.setCell ⟨gx, 0, none⟩ (.slice A6 (r.raw n).1.l.length c6)).setCell ⟨gx, 1, none⟩ (.int .i64 (r.raw n).1.e)) = w7 at *
              clear hg7 hh6 p0 p1 p2 p3 hR6 hB6 z2 z3 z4 hq6
              go_wp2_with fail
              refine (Re.raw_calls g g r n w7 hR7).mono ?_
              rintro e w8 ⟨rfl, hR8, hg8⟩
              have hX8 := hX7.other hg8 (by omega) Hg.out
              have hB8 := Lib.hid (hB7.out.trans (below_of_only hg8 Hg.out hB7.out.size))
              go_wp2
              go_meet
              exact ⟨rfl, _, hR8, hX8, hB8.out⟩
            · have hX0 := hX
              obtain ⟨AX, cX, hXh, hX2, hX3, hX4, hX5⟩ := hX
              obtain ⟨y0, y1, y2, y3⟩ := Re.blk_cell hXh
              have hXlt := hX0.lt
              go_wp2_with fail
              refine (Fr.rbyte_calls w.heap.size (.agg #[.slice AX r.l.length cX, .int .i64 r.e]) r _ ⟨AX, cX, rfl, hX2, hX3, hX4⟩ HB.out.size).mono ?_
              rintro e w6 ⟨v6, rfl, ⟨A6, c6, rfl, z2, z3, z4⟩, hb6⟩
              have hh6 := (hb6.block gx hXlt).trans hXh
              obtain ⟨p0, p1, p2, p3⟩ := Re.blk_cell hh6
              have hB6 := Lib.hid (bthen HB.out hb6)
              have hR6 := hR.below hb6
              have hX7 := Lib.hid (IsX.put (r := r.byte.1) hh6 z2 z3 z4 hX5)
              have hg7 := Lib.hid (only_put (w := w6) (g := gx) (u := .slice A6 r.byte.1.l.length c6) (v := .int .i64 r.byte.1.e))
              have hR7 := Lib.hid (hR6.other hg7.out hggx)
              have hB7 := Lib.hid (hB6.out.trans (below_of_only hg7.out (Nat.le_trans Hg.out (Nat.le_of_lt hggx)) hB6.out.size))
              clear y0 y1 y2 y3 hXh hX4 hX0 hh6 hR6 hb6 hg7
              go_wp2_with fail
              generalize ((w6.setCell ⟨gx, 0, none⟩ (.slice A6 r.byte.1.l.length c6)).setCell ⟨gx, 1, none⟩ (.int .i64 r.byte.1.e)) = w7 at *
              refine (Re.byte_calls g g r w7 hR7.out).mono ?_
              rintro e w8 ⟨rfl, hR8, hg8⟩
              have hX8 := hX7.out.other hg8 (by omega) Hg.out
              have hB8 := Lib.hid (hB7.out.trans (below_of_only hg8 Hg.out hB7.out.size))
              go_wp2
              go_meet
              exact ⟨rfl, _, hR8, hX8, hB8.out⟩
          case rest =>
            obtain ⟨rfl, r2, hR, hX, hB⟩ := hcut
            clear hq0 hq1
            go_wp2_with fail
            have hX0 := hX
            obtain ⟨AX, cX, hXh, hX2, hX3, hX4, hX5⟩ := hX
            obtain ⟨y0, y1, y2, y3⟩ := Re.blk_cell hXh
            have hXlt : gx < wc.drew.heap.size := hX0.lt
            have hXhd : wc.drew.heap[gx]? = _ := hXh
            have hX4d : ReadB wc.drew w.heap.size AX r2.l := hX4
            have HBd := Lib.hid hB.drew
            have hRd : Re.IsR wc.drew g g r2 := hR
            refine CanL.region (fun w' => w'.cell? ⟨gx, 0, none⟩ = some (.slice AX r2.l.length cX) ∧ w'.cell? ⟨gx, 1, none⟩ = some (.int .i64 r2.e)) 1000 [(0, 2), (1, 2), (2, 2), (3, 2), (5, 2), (6, 1), (7, 2), (4, 0), (8, 2), (9, 2), (10, 2), (11, 2), (13, 2), (14, 1), (12, 0), (15, 2), (16, 2), (17, 2), (18, 2), (20, 1), (19, 0), (21, 0), (22, 2), (23, 2)] (by kernel_rfl) (by kernel_rfl) ⟨y0, y1⟩ ?_
            have hF0 : wc.drew.cell? ⟨gx, 0, none⟩ = some (.slice AX r2.l.length cX) ∧ wc.drew.cell? ⟨gx, 1, none⟩ = some (.int .i64 r2.e) := ⟨y0, y1⟩
            generalize wc.drew = W at *
            have HF0 := Lib.hid hF0
            clear y0 y1 y2 y3 hXh hX4 hX0 hB hR hF0
            repeat (first | (refine CanL.skip rfl ?_ (fun K hK => ?_); (focus (go_simp; done)); go_simp; refine hK _ ?_; clear hK K) | (refine CanL.pur rfl ?_ ?_; (focus (go_simp; done)); refine ⟨?_, ?_, ?_⟩; rotate_left; (focus (intro w'; go_simp; rfl)); (focus (intro K hK; go_simp; refine hK _ ?_; clear hK K))) | (refine CanL.held rfl ?_ ?_; (focus (go_simp; done)); refine ⟨?_, ?_, ?_⟩; rotate_left; (focus (intro w' hS'; (try dsimp only at hS'); go_simp; rfl)); (focus (intro K hK; go_simp; refine hK _ ?_; clear hK K))) | (refine CanL.last rfl (fun K hK => ?_); go_simp; refine hK.out _ _ ?_; clear hK K) | (refine CanL.imp rfl (fun K hK => ?_); go_simp; (first | (go_at_call 41; go_must (refine (Re.left_calls _ _ _ _ hRd).mono ?_; rintro e w9 ⟨rfl, rfl⟩); have hFk := HF0.out) | (go_at_call 42; go_must (refine (Re.err_calls _ _ _ _ hRd).mono ?_; rintro e w9 ⟨rfl, rfl⟩); have hFk := HF0.out) | (go_at_call 43; go_must (refine (Re.done_calls _ _ _ _ hRd).mono ?_; rintro e w9 ⟨rfl, rfl⟩); have hFk := HF0.out) | (go_at_call 44; go_must (refine (Fr.rdone_calls w.heap.size (.agg #[.slice AX r2.l.length cX, .int .i64 r2.e]) r2 _ ⟨AX, cX, rfl, hX2, hX3, hX4d⟩).mono ?_; rintro e w9 ⟨rfl, hb9⟩); have hh9 := (hb9.block gx hXlt).trans hXhd; have hFk := And.intro (Re.blk_cell hh9).1 (Re.blk_cell hh9).2.1; have HB9 := Lib.hid (bthen HBd.out hb9); have hR9 := hRd.below hb9)); go_simp; refine hK.out _ _ (hFk) ?_; clear hK K))
            refine CanL.done ?_
            go_wp2
            all_goals
              exact ⟨⟨k + 1, r2, by omega, by go_num, hR9, ⟨AX, cX, hh9, hX2, hX3, hX4d.below (hb9.mono (by have := HBd.out.size; omega)), hX5⟩, HB9.out⟩, by simp [intOf]; omega⟩
        · have hke : k = ks.length := by omega
          subst hke
          have HB := Lib.hid hB
          clear hB hkl
          go_wp2_with (go_at_call 25; refine (Hf.out _ HB.out).mono ?_; rintro e w5 ⟨rfl, hb5⟩)
          go_ret
          exact ⟨rfl, hb5⟩
end Fl
end Go.Proofs.Ytldhplanpnddbaa

/- A fork goes its own way: the walk of the statement. -/
import Derived.Test.YtiofkhjpknfkgaaK01
import Derived.Test.YtiofkhjpknfkgaaK02
import Derived.Test.YtiofkhjpknfkgaaK03
import Derived.Test.YtiofkhjpknfkgaaK04
import Derived.Test.YtiofkhjpknfkgaaK05
import Derived.Test.YtiofkhjpknfkgaaK06
import Derived.Test.YtiofkhjpknfkgaaK07
import Derived.Test.YtiofkhjpknfkgaaK08
import Derived.Test.YtiofkhjpknfkgaaK09
import Derived.Test.YtiofkhjpknfkgaaK10
import Derived.Test.YtiofkhjpknfkgaaK11
import Derived.Test.YtiofkhjpknfkgaaK12
namespace Go.Proofs.Ytiofkhjpknfkgaa
namespace Dl
open Go.RowKit Ba Tm Dm Os_
set_option linter.unusedVariables false
/-- the document's decoder in a block -/
def IsX (w : World) (g : Nat) (d : Dm.D) : Prop := ∃ (BA : Option Addr) (bc : Nat), Blk w g 37 #[.int .i64 100, .int .i64 d.made, .slice BA d.b.length bc, .int .i64 d.e] ∧ d.b.length ≤ bc ∧ bc ≤ 9223372036854775807 ∧ RT w BA d.b
theorem IsX.below {w w' : World} {g : Nat} {d : Dm.D} (h : IsX w g d) (hb : Below w.heap.size w w') : IsX w' g d := by
  obtain ⟨BA, bc, h1, h2, h3, h4⟩ := h
  exact ⟨BA, bc, h1.below hb h1.lt, h2, h3, h4.below hb⟩
theorem IsX.row {w w' : World} {g k : Nat} {d : Dm.D} (h : IsX w g d) (hg : w.grownBy w' (some k)) (hk : g ≠ k) (hB : ∃ t cs, Blk w k t cs ∧ 5 ≠ t) : IsX w' g d := by
  obtain ⟨BA, bc, h1, h2, h3, h4⟩ := h
  exact ⟨BA, bc, h1.grown hg (by simpa using hk), h2, h3, h4.row hg (fun g' hg' => by injection hg' with hg'; subst hg'; exact hB)⟩
theorem IsX.lt {w : World} {g : Nat} {d : Dm.D} (h : IsX w g d) : g < w.heap.size := by obtain ⟨_, _, h, _⟩ := h; exact h.lt
theorem isD_blk {w : World} {g : Nat} {old made : Int} {b : List UInt8} {e : Int} (h : IsD w g old made b e) : ∃ t cs, Blk w g t cs ∧ 5 ≠ t := by obtain ⟨_, _, h, _⟩ := h; exact ⟨_, _, h, dec_ne⟩
theorem isX_blk {w : World} {g : Nat} {d : Dm.D} (h : IsX w g d) : ∃ t cs, Blk w g t cs ∧ 5 ≠ t := by obtain ⟨_, _, h, _⟩ := h; exact ⟨_, _, h, rdec_ne⟩
theorem isD_blkO {w : World} {g : Nat} {old made : Int} {b : List UInt8} {e : Int} (h : IsD w g old made b e) : ∃ t cs, Blk w g t cs ∧ 5 ≠ t ∧ 54 ≠ t := by obtain ⟨_, _, h, _⟩ := h; exact ⟨_, _, h, dec_ne, decop_ne⟩
theorem isX_blkO {w : World} {g : Nat} {d : Dm.D} (h : IsX w g d) : ∃ t cs, Blk w g t cs ∧ 5 ≠ t ∧ 54 ≠ t := by obtain ⟨_, _, h, _⟩ := h; exact ⟨_, _, h, rdec_ne, rdop_ne⟩
theorem isD_row {w w' : World} {g k : Nat} {old made : Int} {b : List UInt8} {e : Int} (h : IsD w g old made b e) (hg : w.grownBy w' (some k)) (hk : g ≠ k) (hB : ∃ t cs, Blk w k t cs ∧ 5 ≠ t) : IsD w' g old made b e :=
  h.row hg (fun e => hk (by injection e with e; exact e.symm)) (fun g' hg' => by injection hg' with hg'; subst hg'; exact hB)
theorem own_row {w w' : World} {base k : Nat} {v : Value} {M : List Ow} (h : OwnO w base v M) (hg : w.grownBy w' (some k)) (hB : ∃ t cs, Blk w k t cs ∧ 5 ≠ t ∧ 54 ≠ t) : OwnO w' base v M := by
  obtain ⟨t, cs, h1, h2, h3⟩ := hB
  refine h.grown hg (.inr fun hh => ?_) (fun g' hg' => by injection hg' with hg'; subst hg'; exact ⟨t, cs, h1, h2⟩)
  obtain ⟨cs', hcs⟩ := own_blk h.1 _ hh
  exact hcs.ne_ h1 h3 rfl
set_option maxRecDepth 100000 in
set_option maxHeartbeats 16000000 in
theorem forks_calls (a b c : List UInt8) (Aa Ab Ac : Option Addr) (ca cb cc : Nat) (ha : a.length ≤ ca) (hb : b.length ≤ cb) (hc : c.length ≤ cc) (hac : ca ≤ 9223372036854775807) (hbc : cb ≤ 9223372036854775807) (hcc : cc ≤ 9223372036854775807) (w : World) (hra : ReadB w w.heap.size Aa a) (hrb : ReadB w w.heap.size Ab b) (hrc : ReadB w w.heap.size Ac c) :
    Calls Try.prog 6 #[.slice Aa a.length ca, .slice Ab b.length cb, .slice Ac c.length cc] w fun e w' => e = .returned (.bool true) ∧ Below w.heap.size w w' := by
  obtain ⟨la, hla⟩ : ∃ la, la = a.length := ⟨_, rfl⟩
  obtain ⟨lb, hlb⟩ : ∃ lb, lb = b.length := ⟨_, rfl⟩
  obtain ⟨lc, hlc⟩ : ∃ lc, lc = c.length := ⟨_, rfl⟩
  rw [← hla] at ha ⊢
  rw [← hlb] at hb ⊢
  rw [← hlc] at hc ⊢
  have Hla := Lib.hid hla
  have Hlb := Lib.hid hlb
  have Hlc := Lib.hid hlc
  have Hra := Lib.hid hra
  have Hrb := Lib.hid hrb
  have Hrc := Lib.hid hrc
  have Haw := Lib.hid (fun w => awake_calls w)
  clear hla hlb hlc hra hrb hrc
  by_cases h1 : 2000 < la
  · go_enter Try.func6, Try.ntmps6
    go_wp2_with fail
    refine Calls.mono (Haw.out _) ?_
    rintro e9 w9 ⟨rfl, hb9⟩
    go_wp2_with fail
    go_ret
    exact ⟨rfl, hb9⟩
  by_cases h2 : 2000 < lb
  · go_enter Try.func6, Try.ntmps6
    go_wp2_with fail
    refine Calls.mono (Haw.out _) ?_
    rintro e9 w9 ⟨rfl, hb9⟩
    go_wp2_with fail
    go_ret
    exact ⟨rfl, hb9⟩
  by_cases h3 : 2000 < lc
  · go_enter Try.func6, Try.ntmps6
    go_wp2_with fail
    refine Calls.mono (Haw.out _) ?_
    rintro e9 w9 ⟨rfl, hb9⟩
    go_wp2_with fail
    go_ret
    exact ⟨rfl, hb9⟩
  go_enter Try.func6, Try.ntmps6
  go_wp2_with fail
  refine (new_calls 100 _).mono ?_
  rintro e1 w1 ⟨g, rfl, hg1, hD1, hb1⟩
  have hx1 := Blk.new w1 37 #[.int .i64 100, .int .i64 0, .slice none 0 0, .int .i64 0]
  have HX2 : Hid (IsX (w1.alloc (.cells #[.int .i64 100, .int .i64 0, .slice none 0 0, .int .i64 0] 37)) w1.heap.size ⟨0, [], 0⟩) := Lib.hid ⟨none, 0, hx1, by simp, by omega, RT.nil⟩
  have HW2 : Hid (Below w.heap.size w (w1.alloc (.cells #[.int .i64 100, .int .i64 0, .slice none 0 0, .int .i64 0] 37))) := Lib.hid (hb1.alloc hb1.size _)
  have HD2 := Lib.hid (hD1.below ((Below.refl _ _).alloc (Nat.le_refl _) (.cells #[.int .i64 100, .int .i64 0, .slice none 0 0, .int .i64 0] 37)))
  have Hg : Hid (w.heap.size ≤ g) := Lib.hid hg1
  have Hgx : Hid (w.heap.size ≤ w1.heap.size) := Lib.hid hb1.size
  have Hgg : Hid (g < w1.heap.size) := Lib.hid hD1.lt
  clear hx1 hD1 hb1 hg1
  go_wp2_with fail
  generalize w1.alloc (.cells #[.int .i64 100, .int .i64 0, .slice none 0 0, .int .i64 0] 37) = w2 at *
  generalize w1.heap.size = gx at *
  have hfd := feed_calls g 100 0 [] 0 a Aa la ca Hla.out ha hac (by omega) (by omega) (by simp; omega) w2 HD2.out ((Hra.out.below HW2.out).more HW2.out.size)
  refine Calls.mono hfd ?_
  rintro e3 w3 ⟨v3, M3, rfl, -, -, hD3, hg3⟩
  have hi3 := feed_inv 100 ⟨0, [], 0⟩ a (by simp) (by simp)
  obtain ⟨d3, hd3⟩ : ∃ d3, d3 = (feed 100 ⟨0, [], 0⟩ a).1 := ⟨_, rfl⟩
  have Hd3 := Lib.hid hd3
  rw [← hd3] at hD3 hi3
  have HD3 := Lib.hid hD3
  have HW3 : Hid (Below w.heap.size w w3) := Lib.hid (HW2.out.trans (below_of_only hg3 Hg.out HW2.out.size))
  have HX3 := Lib.hid (HX2.out.row hg3 (by have := Hgg.out; omega) (isD_blk HD2.out))
  have Hi3 := Lib.hid hi3
  clear hfd hD3 hg3 hi3 hd3 HX2 HD2 HW2
  obtain ⟨BA3, bc3, hB3, hp3, hm3, hR3⟩ := HX3.out
  have hrx3 : w3.rangeAt gx 0 [.int .i64 100, .int .i64 0, .slice BA3 0 bc3, .int .i64 0] := fun j v hv => by rw [Blk.cell hB3, Nat.zero_add]; simpa using hv
  have hrf := rfeed_calls 100 0 [] 0 BA3 bc3 a Aa la ca Hla.out ha hac hp3 hm3 (by omega) (by omega) (by simp; omega) w3 hR3 ((Hra.out.below HW3.out).more HW3.out.size)
  have Hrx3 := Lib.hid hrx3
  have Hrf := Lib.hid hrf
  clear hrx3 hrf hB3 hp3 hm3 hR3
  go_wp2_with (refine wpList_load_mid rfl 37 (.tmp 8) rfl gx 0 rfl [.int .i64 100, .int .i64 0, .slice BA3 0 bc3, .int .i64 0] _ Hrx3.out Try.underlying37 rfl (by kernel_rfl) ?_)
  refine Calls.mono Hrf.out ?_
  rintro e4 w4 ⟨hb4, A4, c4, v4, M4, rfl, -, -, hp4, hm4, hR4⟩
  rw [← Hd3.out] at hp4 hR4 ⊢
  have Hb4 := Lib.hid (HX3.out.below hb4)
  have HD4 := Lib.hid (HD3.out.below hb4)
  have HW4 := Lib.hid (HW3.out.trans (hb4.mono HW3.out.size))
  obtain ⟨m3, b3, e3⟩ := d3
  simp only at hp4 hR4 HD4 Hi3 ⊢
  obtain ⟨BA4, bc4, hB4, -, -, -⟩ := HX3.out.below hb4
  have HB4 := Lib.hid hB4
  have HR4 := Lib.hid hR4
  have Hp4 := Lib.hid hp4
  have Hm4 := Lib.hid hm4
  clear hb4 hB4 hR4 hp4 hm4 HD3 HX3 HW3 Hrx3 Hrf
  go_wp2_with (refine Sm.wpList_store_blk rfl 37 (.tmp 8) (.tmp 41) rfl gx 0 37 [] [.int .i64 100, .int .i64 0, .slice BA4 0 bc4, .int .i64 0] [] [.int .i64 100, .int .i64 m3, .slice A4 b3.length c4, .int .i64 e3] rfl rfl HB4.out rfl rfl (by kernel_rfl) (fun u hu => by simp only [List.mem_cons, List.not_mem_nil, or_false] at hu; rcases hu with rfl | rfl | rfl | rfl <;> rfl) ?_; intro w5 hS5 hg5)
  have hXb := isX_blk (d := ⟨0, [], 0⟩) Hb4.out
  have HX5 : Hid (IsX w5 gx ⟨m3, b3, e3⟩) := Lib.hid ⟨A4, c4, by simpa using hS5, Hp4.out, Hm4.out, HR4.out.row hg5 (fun g' hg' => by injection hg' with hg'; subst hg'; exact hXb)⟩
  have HD5 := Lib.hid (isD_row HD4.out hg5 (by have := Hgg.out; omega) hXb)
  have HW5 : Hid (Below w.heap.size w w5) := Lib.hid (HW4.out.trans (below_of_only hg5 Hgx.out HW4.out.size))
  clear hS5 hg5 hXb Hb4 HB4 HR4 Hp4 Hm4 HD4 HW4
  obtain ⟨BA, bc, hBx, hpx, hmx, hRx⟩ := HX5.out
  have hrx : w5.drew.rangeAt gx 0 [.int .i64 100, .int .i64 m3, .slice BA b3.length bc, .int .i64 e3] := fun j v hv => by
    have : w5.cell? ⟨gx, 0 + j, none⟩ = some v := by rw [Blk.cell hBx, Nat.zero_add]; simpa using hv
    exact this
  have hfk := fun W h => fork_calls (w := W) (g := g) (old := 100) (made := m3) (b := b3) (e := e3) h (by have h5 : b3.length ≤ 0 + a.length := Hi3.out.2.2; have h6 := Hla.out; omega)
  have Hfk := Lib.hid hfk
  have Hrx := Lib.hid hrx
  have Hpx := Lib.hid hpx
  have Hmx := Lib.hid hmx
  have HRx := Lib.hid hRx
  clear hBx hpx hmx hRx hrx hfk
  go_wp2_with fail
  refine CanT.region (fun W => W.rangeAt gx 0 [.int .i64 100, .int .i64 m3, .slice BA b3.length bc, .int .i64 e3]) 5 (.op 0 2 (.op 2 1 (.fork (.op 1 0 (.op 3 0 (.op 4 2 (.op 5 0 (.nil))))) (.op 3 0 (.op 1 0 (.op 4 2 (.op 5 0 (.nil)))))))) (by kernel_rfl) (by kernel_rfl) Hrx.out ?_
  have HXd : Hid (IsX w5.drew gx ⟨m3, b3, e3⟩) := HX5
  have HDd : Hid (IsD w5.drew g 100 m3 b3 e3) := HD5
  have HWd := Lib.hid HW5.out.drew
  have HRd : Hid (RT w5.drew BA b3) := HRx
  clear HX5 HD5 HW5 HRx
  generalize w5.drew = wd at *
  repeat (first | (refine CanT.skip rfl ?_ (fun K hK => ?_); (focus (go_simp; done)); go_simp; refine hK _ ?_; clear hK K) | (refine CanT.pur rfl ?_ ?_; (focus (go_simp; done)); refine ⟨?_, ?_, ?_⟩; rotate_left; (focus (intro w'; go_simp; rfl)); (focus (intro K hK; go_simp; refine hK _ ?_; clear hK K))) | (refine CanT.heldR rfl ?_ 37 _ rfl gx (0) ([.int .i64 100, .int .i64 m3, .slice BA b3.length bc, .int .i64 e3]) rfl (fun w1 h => h) _ Try.underlying37 rfl (by kernel_rfl) (fun K hK => ?_); (focus (go_simp; done)); go_simp; refine hK _ ?_; clear hK K))
  refine CanT.both ?_ ?_
  · refine CanT.imp rfl (fun K hK => ?_)
    go_simp
    refine Calls.mono (Hfk.out _ HDd.out) ?_
    rintro e6 w6 ⟨gf, rfl, hgf, hDf, hb6⟩
    (try go_simp)
    refine hK.out _ _ (fun jj v hv => (hb6.cell (p := ⟨gx, 0 + jj, none⟩) HXd.out.lt).trans (Hrx.out jj v hv)) ?_
    clear hK K
    refine CanT.imp rfl (fun K hK => ?_)
    go_simp
    have hb7 : Below wd.heap.size wd (w6.alloc (.cells #[.int .i64 0, .int .i64 0, .slice none 0 0, .int .i64 0] 37)) := hb6.alloc hb6.size _
    refine hK.out _ _ (fun jj v hv => (hb7.cell (p := ⟨gx, 0 + jj, none⟩) HXd.out.lt).trans (Hrx.out jj v hv)) ?_
    clear hK K
    have hy0 := Blk.new w6 37 #[.int .i64 0, .int .i64 0, .slice none 0 0, .int .i64 0]
    have hDf7 := hDf.below ((Below.refl _ _).alloc (Nat.le_refl _) (.cells #[.int .i64 0, .int .i64 0, .slice none 0 0, .int .i64 0] 37))
    have hfy : gf < w6.heap.size := hDf.lt
    have hgy : wd.heap.size ≤ w6.heap.size := hb6.size
    have hfy2 : gf ≠ w6.heap.size := by omega
    clear hDf hb6 hfy
    generalize w6.heap.size = gy at *
    generalize w6.alloc (.cells #[.int .i64 0, .int .i64 0, .slice none 0 0, .int .i64 0] 37) = w7 at *
    repeat (first | (refine CanT.skip rfl ?_ (fun K hK => ?_); (focus (go_simp; done)); go_simp; refine hK _ ?_; clear hK K) | (refine CanT.pur rfl ?_ ?_; (focus (go_simp; done)); refine ⟨?_, ?_, ?_⟩; rotate_left; (focus (intro w'; go_simp; rfl)); (focus (intro K hK; go_simp; refine hK _ ?_; clear hK K))))
    refine CanT.last rfl (fun K hK => ?_)
    refine step_storeR ?_ 37 (.tmp 10) (.tmp 46) rfl gy #[.int .i64 100, .int .i64 m3, .slice BA b3.length bc, .int .i64 e3] rfl rfl 37 _ hy0 (by kernel_rfl) rfl (all_oneCell_toArray (cs := [.int .i64 100, .int .i64 m3, .slice BA b3.length bc, .int .i64 e3]) (fun u hu => by simp only [List.mem_cons, List.not_mem_nil, or_false] at hu; rcases hu with rfl | rfl | rfl | rfl <;> rfl)) ?_
    focus (go_simp; done)
    intro w8 hS8 hg8
    have hbk : ∃ t cs, Blk w7 gy t cs ∧ 5 ≠ t := ⟨_, _, hy0, rdec_ne⟩
    have hgxw := HXd.out.lt
    have Hgf : Hid (gx < gf) := Lib.hid (by omega)
    have Hgy : Hid (gx < gy) := Lib.hid (by omega)
    have Hfy : Hid (gf ≠ gy) := Lib.hid hfy2
    have HD := Lib.hid (isD_row (HDd.out.below hb7) hg8 (by have := Hgg.out; have := Hgf.out; have := Hgy.out; have := Hfy.out; omega) hbk)
    have HF := Lib.hid (isD_row hDf7 hg8 (by have := Hgg.out; have := Hgf.out; have := Hgy.out; have := Hfy.out; omega) hbk)
    have HX := Lib.hid ((HXd.out.below hb7).row hg8 (by have := Hgg.out; have := Hgf.out; have := Hgy.out; have := Hfy.out; omega) hbk)
    have HY : Hid (IsX w8 gy ⟨m3, b3, e3⟩) := Lib.hid ⟨BA, bc, hS8, Hpx.out, Hmx.out, (HRd.out.below hb7).row hg8 (fun g' hg' => by injection hg' with hg'; subst hg'; exact hbk)⟩
    have HW : Hid (Below w.heap.size w w8) := Lib.hid (HWd.out.trans ((hb7.trans (below_of_only hg8 hgy hb7.size)).mono HWd.out.size))
    (try go_simp)
    refine hK.out _ _ ?_
    clear hK K hS8 hg8 hbk hgxw hfy2 hgf hgy hy0 hDf7 hb7 HXd HDd HWd HRd Hrx Hpx Hmx Hfk
    repeat (first | (refine CanT.skip rfl ?_ (fun K hK => ?_); (focus (go_simp; done)); go_simp; refine hK _ ?_; clear hK K) | (refine CanT.pur rfl ?_ ?_; (focus (go_simp; done)); refine ⟨?_, ?_, ?_⟩; rotate_left; (focus (intro w'; go_simp; rfl)); (focus (intro K hK; go_simp; refine hK _ ?_; clear hK K))))
    refine CanT.done ?_
    have hfd := feed_calls g 100 m3 b3 e3 b Ab lb cb Hlb.out hb hbc (by omega) ⟨Hi3.out.1, Hi3.out.2.1⟩ (by have h5 : b3.length ≤ 0 + a.length := Hi3.out.2.2; have h6 := Hla.out; omega) _ HD.out ((Hrb.out.below HW.out).more HW.out.size)
    have Hfd := Lib.hid hfd
    have hi := feed_inv 100 ⟨m3, b3, e3⟩ b Hi3.out.1 Hi3.out.2.1
    clear hfd
    go_wp2_with fail
    refine Calls.mono Hfd.out ?_
    rintro e9 wn ⟨v4, M4, rfl, hO4, hop4, hD4, hgd⟩
    obtain ⟨F4, hF4⟩ : ∃ F, F = feed 100 ⟨m3, b3, e3⟩ b := ⟨_, rfl⟩
    rw [← hF4] at hop4 hD4 hi ⊢
    obtain ⟨⟨m4, b4, e4⟩, o4, r4⟩ := F4
    simp only at hop4 hD4 hi ⊢
    have HF4 := Lib.hid hF4
    have Hop4 := Lib.hid hop4
    have Hi4 := Lib.hid hi
    have hbk := isD_blk HD.out
    have hbkO := isD_blkO HD.out
    have HF := Lib.hid (isD_row HF.out hgd (by have := Hgg.out; have := Hgf.out; have := Hgy.out; have := Hfy.out; omega) hbk)
    have HX := Lib.hid (HX.out.row hgd (by have := Hgg.out; have := Hgf.out; have := Hgy.out; have := Hfy.out; omega) hbk)
    have HY := Lib.hid (HY.out.row hgd (by have := Hgg.out; have := Hgf.out; have := Hgy.out; have := Hfy.out; omega) hbk)
    have HD := Lib.hid hD4
    have HM4 := Lib.hid hO4
    have HW : Hid (Below w.heap.size w wn) := Lib.hid (HW.out.trans (below_of_only hgd Hg.out HW.out.size))
    clear hF4 hD4 hO4 hop4 hi hgd Hfd hbk hbkO
    obtain ⟨BA4, bc4, hB4, hp4, hm4, hR4⟩ := HX.out
    have hrx : World.rangeAt _ gx 0 [.int .i64 100, .int .i64 m3, .slice BA4 b3.length bc4, .int .i64 e3] := fun jj v hv => by rw [Blk.cell hB4, Nat.zero_add]; simpa using hv
    have hrf := rfeed_calls 100 m3 b3 e3 BA4 bc4 b Ab lb cb Hlb.out hb hbc hp4 hm4 (by omega) ⟨Hi3.out.1, Hi3.out.2.1⟩ (by have h5 : b3.length ≤ 0 + a.length := Hi3.out.2.2; have h6 := Hla.out; omega) _ hR4 ((Hrb.out.below HW.out).more HW.out.size)
    have Hrx := Lib.hid hrx
    have Hrf := Lib.hid hrf
    clear hrx hrf hB4 hp4 hm4 hR4
    go_wp2_with (refine wpList_load_mid rfl 37 (.tmp 8) rfl gx 0 rfl [.int .i64 100, .int .i64 m3, .slice BA4 b3.length bc4, .int .i64 e3] _ Hrx.out Try.underlying37 rfl (by kernel_rfl) ?_)
    refine Calls.mono Hrf.out ?_
    rintro e4 wn ⟨hbn, A4, c4, w4v, N4, rfl, hO, hop, hp, hm, hR⟩
    rw [← HF4.out] at hop hp hR ⊢
    simp only at hop hp hR ⊢
    have HD := Lib.hid (HD.out.below hbn)
    have HF := Lib.hid (HF.out.below hbn)
    have HX := Lib.hid (HX.out.below hbn)
    have HY := Lib.hid (HY.out.below hbn)
    have HW := Lib.hid (HW.out.trans (hbn.mono HW.out.size))
    have HN4 := Lib.hid hO
    have HoN4 := Lib.hid hop
    obtain ⟨BA4, bc4, hB4, -, -, -⟩ := HX.out
    have HB4 := Lib.hid hB4
    have HR4 := Lib.hid hR
    have Hp4 := Lib.hid hp
    have Hm4 := Lib.hid hm
    clear hbn hO hop hp hm hR hB4 Hrx Hrf
    go_wp2_with (refine Sm.wpList_store_blk rfl 37 (.tmp 8) (.tmp 60) rfl gx 0 37 [] [.int .i64 100, .int .i64 m3, .slice BA4 b3.length bc4, .int .i64 e3] [] [.int .i64 100, .int .i64 m4, .slice A4 b4.length c4, .int .i64 e4] rfl rfl HB4.out rfl rfl (by kernel_rfl) (fun u hu => by simp only [List.mem_cons, List.not_mem_nil, or_false] at hu; rcases hu with rfl | rfl | rfl | rfl <;> rfl) ?_; intro wm hS5 hg5)
    have hbk := isX_blk HX.out
    have hbkO := isX_blkO HX.out
    have HD := Lib.hid (isD_row HD.out hg5 (by have := Hgg.out; have := Hgf.out; have := Hgy.out; have := Hfy.out; omega) hbk)
    have HF := Lib.hid (isD_row HF.out hg5 (by have := Hgg.out; have := Hgf.out; have := Hgy.out; have := Hfy.out; omega) hbk)
    have HY := Lib.hid (HY.out.row hg5 (by have := Hgg.out; have := Hgf.out; have := Hgy.out; have := Hfy.out; omega) hbk)
    have HN4 := Lib.hid (own_row HN4.out hg5 hbkO)
    have HX : Hid (IsX wm gx ⟨m4, b4, e4⟩) := Lib.hid ⟨A4, c4, by simpa using hS5, Hp4.out, Hm4.out, HR4.out.row hg5 (fun g' hg' => by injection hg' with hg'; subst hg'; exact hbk)⟩
    have HW : Hid (Below w.heap.size w wm) := Lib.hid (HW.out.trans (below_of_only hg5 (by have := Hgx.out; have := Hgy.out; omega) HW.out.size))
    clear hS5 hg5 hbk hbkO HB4 HR4 Hp4 Hm4
    have hfd := feed_calls gf 100 m3 b3 e3 c Ac lc cc Hlc.out hc hcc (by omega) ⟨Hi3.out.1, Hi3.out.2.1⟩ (by have h5 : b3.length ≤ 0 + a.length := Hi3.out.2.2; have h6 := Hla.out; omega) _ HF.out ((Hrc.out.below HW.out).more HW.out.size)
    have Hfd := Lib.hid hfd
    have hi := feed_inv 100 ⟨m3, b3, e3⟩ c Hi3.out.1 Hi3.out.2.1
    clear hfd
    go_wp2_with fail
    refine Calls.mono Hfd.out ?_
    rintro e9 wn ⟨v5, M5, rfl, hO5, hop5, hD5, hgd⟩
    obtain ⟨F5, hF5⟩ : ∃ F, F = feed 100 ⟨m3, b3, e3⟩ c := ⟨_, rfl⟩
    rw [← hF5] at hop5 hD5 hi ⊢
    obtain ⟨⟨m5, b5, e5⟩, o5, r5⟩ := F5
    simp only at hop5 hD5 hi ⊢
    have HF5 := Lib.hid hF5
    have Hop5 := Lib.hid hop5
    have Hi5 := Lib.hid hi
    have hbk := isD_blk HF.out
    have hbkO := isD_blkO HF.out
    have HD := Lib.hid (isD_row HD.out hgd (by have := Hgg.out; have := Hgf.out; have := Hgy.out; have := Hfy.out; omega) hbk)
    have HX := Lib.hid (HX.out.row hgd (by have := Hgg.out; have := Hgf.out; have := Hgy.out; have := Hfy.out; omega) hbk)
    have HY := Lib.hid (HY.out.row hgd (by have := Hgg.out; have := Hgf.out; have := Hgy.out; have := Hfy.out; omega) hbk)
    have HF := Lib.hid hD5
    have HM5 := Lib.hid hO5
    have HW : Hid (Below w.heap.size w wn) := Lib.hid (HW.out.trans (below_of_only hgd (by have := Hgx.out; have := Hgf.out; omega) HW.out.size))
    clear hF5 hD5 hO5 hop5 hi hgd Hfd hbk hbkO
    obtain ⟨BA5, bc5, hB5, hp5, hm5, hR5⟩ := HY.out
    have hrx : World.rangeAt _ gy 0 [.int .i64 100, .int .i64 m3, .slice BA5 b3.length bc5, .int .i64 e3] := fun jj v hv => by rw [Blk.cell hB5, Nat.zero_add]; simpa using hv
    have hrf := rfeed_calls 100 m3 b3 e3 BA5 bc5 c Ac lc cc Hlc.out hc hcc hp5 hm5 (by omega) ⟨Hi3.out.1, Hi3.out.2.1⟩ (by have h5 : b3.length ≤ 0 + a.length := Hi3.out.2.2; have h6 := Hla.out; omega) _ hR5 ((Hrc.out.below HW.out).more HW.out.size)
    have Hrx := Lib.hid hrx
    have Hrf := Lib.hid hrf
    clear hrx hrf hB5 hp5 hm5 hR5
    go_wp2_with (refine wpList_load_mid rfl 37 (.tmp 10) rfl gy 0 rfl [.int .i64 100, .int .i64 m3, .slice BA5 b3.length bc5, .int .i64 e3] _ Hrx.out Try.underlying37 rfl (by kernel_rfl) ?_)
    refine Calls.mono Hrf.out ?_
    rintro e4 wn ⟨hbn, A5, c5, w5v, N5, rfl, hO, hop, hp, hm, hR⟩
    rw [← HF5.out] at hop hp hR ⊢
    simp only at hop hp hR ⊢
    have HD := Lib.hid (HD.out.below hbn)
    have HF := Lib.hid (HF.out.below hbn)
    have HX := Lib.hid (HX.out.below hbn)
    have HY := Lib.hid (HY.out.below hbn)
    have HM5 := Lib.hid (HM5.out.keptB hbn)
    have HW := Lib.hid (HW.out.trans (hbn.mono HW.out.size))
    have HN5 := Lib.hid hO
    have HoN5 := Lib.hid hop
    obtain ⟨BA4, bc4, hB4, -, -, -⟩ := HY.out
    have HB4 := Lib.hid hB4
    have HR4 := Lib.hid hR
    have Hp4 := Lib.hid hp
    have Hm4 := Lib.hid hm
    clear hbn hO hop hp hm hR hB4 Hrx Hrf
    go_wp2_with (refine Sm.wpList_store_blk rfl 37 (.tmp 10) (.tmp 73) rfl gy 0 37 [] [.int .i64 100, .int .i64 m3, .slice BA4 b3.length bc4, .int .i64 e3] [] [.int .i64 100, .int .i64 m5, .slice A5 b5.length c5, .int .i64 e5] rfl rfl HB4.out rfl rfl (by kernel_rfl) (fun u hu => by simp only [List.mem_cons, List.not_mem_nil, or_false] at hu; rcases hu with rfl | rfl | rfl | rfl <;> rfl) ?_; intro wm hS5 hg5)
    have hbk := isX_blk HY.out
    have hbkO := isX_blkO HY.out
    have HD := Lib.hid (isD_row HD.out hg5 (by have := Hgg.out; have := Hgf.out; have := Hgy.out; have := Hfy.out; omega) hbk)
    have HF := Lib.hid (isD_row HF.out hg5 (by have := Hgg.out; have := Hgf.out; have := Hgy.out; have := Hfy.out; omega) hbk)
    have HX := Lib.hid (HX.out.row hg5 (by have := Hgg.out; have := Hgf.out; have := Hgy.out; have := Hfy.out; omega) hbk)
    have HM5 := Lib.hid (own_row HM5.out hg5 hbkO)
    have HN5 := Lib.hid (own_row HN5.out hg5 hbkO)
    have HY : Hid (IsX wm gy ⟨m5, b5, e5⟩) := Lib.hid ⟨A5, c5, by simpa using hS5, Hp4.out, Hm4.out, HR4.out.row hg5 (fun g' hg' => by injection hg' with hg'; subst hg'; exact hbk)⟩
    have HW : Hid (Below w.heap.size w wm) := Lib.hid (HW.out.trans (below_of_only hg5 (by have := Hgx.out; have := Hgy.out; omega) HW.out.size))
    clear hS5 hg5 hbk hbkO HB4 HR4 Hp4 Hm4
    go_wp2_with fail
    refine Calls.mono (feed_nil Aa la ca _) ?_
    rintro e9 w9 ⟨rfl, rfl⟩
    obtain ⟨XA, xc, hbx, -, -, -⟩ := HX.out
    obtain ⟨YA, yc, hby, -, -, -⟩ := HY.out
    have HBX := Lib.hid hbx
    have HBY := Lib.hid hby
    clear hbx hby
    obtain ⟨Am, cm, hvm, hs1, hs2, hLm, -⟩ := (HM5.out.keptB ((Below.refl _ _).drew)).opens
    obtain ⟨An, cn, hvn, hs3, hs4, hLn, -⟩ := (HN5.out.keptB ((Below.refl _ _).drew)).opens
    subst hvm hvn
    obtain ⟨lm, hlm⟩ : ∃ l, l = M5.length := ⟨_, rfl⟩
    obtain ⟨ln, hln⟩ : ∃ l, l = N5.length := ⟨_, rfl⟩
    have hsm := same_calls M5 N5 Am lm cm An ln cn hlm hln (by omega) (by omega) _ hLm hLn
    rw [Hop5.out, HoN5.out, same_refl] at hsm
    rw [← hlm, ← hln]
    have Hsm := Lib.hid hsm
    clear hsm hlm hln hs1 hs2 hs3 hs4 hLm hLn HM5 HN5 Hop5 HoN5
    have k1 : wm.drew.cell? ⟨gy, 1, none⟩ = some (.int .i64 m5) := by
      have : wm.cell? ⟨gy, 1, none⟩ = some (.int .i64 m5) := by rw [Blk.cell HBY.out]; rfl
      exact this
    have k2 : wm.drew.cell? ⟨gy, 2, none⟩ = some (.slice YA b5.length yc) := by
      have : wm.cell? ⟨gy, 2, none⟩ = some (.slice YA b5.length yc) := by rw [Blk.cell HBY.out]; rfl
      exact this
    have k3 : wm.drew.cell? ⟨gx, 1, none⟩ = some (.int .i64 m4) := by
      have : wm.cell? ⟨gx, 1, none⟩ = some (.int .i64 m4) := by rw [Blk.cell HBX.out]; rfl
      exact this
    have k4 : wm.drew.cell? ⟨gx, 2, none⟩ = some (.slice XA b4.length xc) := by
      have : wm.cell? ⟨gx, 2, none⟩ = some (.slice XA b4.length xc) := by rw [Blk.cell HBX.out]; rfl
      exact this
    have HFC : Hid (∀ W : World, Below wm.drew.heap.size wm.drew W → (fun W => (W.cell? ⟨gy, 1, none⟩ = some (.int .i64 m5) ∧ W.cell? ⟨gy, 2, none⟩ = some (.slice YA b5.length yc)) ∧ W.cell? ⟨gx, 1, none⟩ = some (.int .i64 m4) ∧ W.cell? ⟨gx, 2, none⟩ = some (.slice XA b4.length xc)) W) := Lib.hid fun W h => ⟨⟨(h.cell (p := ⟨gy, 1, none⟩) HBY.out.lt).trans k1, (h.cell (p := ⟨gy, 2, none⟩) HBY.out.lt).trans k2⟩, (h.cell (p := ⟨gx, 1, none⟩) HBX.out.lt).trans k3, (h.cell (p := ⟨gx, 2, none⟩) HBX.out.lt).trans k4⟩
    clear k1 k2 k3 k4 HBX HBY HX HY
    go_wp2_with fail
    refine CanT.region (fun W => (W.cell? ⟨gy, 1, none⟩ = some (.int .i64 m5) ∧ W.cell? ⟨gy, 2, none⟩ = some (.slice YA b5.length yc)) ∧ W.cell? ⟨gx, 1, none⟩ = some (.int .i64 m4) ∧ W.cell? ⟨gx, 2, none⟩ = some (.slice XA b4.length xc)) 1000 (.op 0 2 (.op 1 2 (.op 2 0 (.op 3 2 (.op 4 2 (.op 5 2 (.op 6 2 (.op 7 2 (.op 8 2 (.op 9 2 (.op 11 2 (.op 12 1 (.op 10 0 (.op 13 2 (.op 14 2 (.op 15 2 (.op 16 2 (.op 18 2 (.op 19 1 (.op 20 2 (.op 17 0 (.op 21 2 (.op 22 2 (.op 23 2 (.op 24 2 (.op 26 2 (.op 27 1 (.op 25 0 (.op 28 2 (.op 29 2 (.op 30 2 (.op 31 2 (.op 33 2 (.op 34 1 (.op 35 2 (.op 32 0 (.op 36 2 (.op 37 2 (.op 38 2 (.op 39 2 (.op 40 2 (.op 41 2 (.op 42 2 (.op 43 2 (.op 44 0 (.op 45 2 (.op 46 2 (.op 47 2 (.op 48 2 (.op 49 0 (.op 50 2 (.op 51 2 (.op 52 2 (.op 53 2 (.op 54 0 (.op 55 2 (.op 56 2 (.op 57 2 (.op 58 0 (.op 59 2 (.op 60 2 (.nil)))))))))))))))))))))))))))))))))))))))))))))))))))))))))))))) (by kernel_rfl) (by kernel_rfl) (HFC.out _ (Below.refl _ _)) ?_
    have HDe : Hid (IsD wm.drew g 100 m4 b4 e4) := HD
    have HFe : Hid (IsD wm.drew gf 100 m5 b5 e5) := HF
    have HWe := Lib.hid HW.out.drew
    clear HD HF HW
    generalize wm.drew = we at *
    repeat (first | (refine CanT.skip rfl ?_ (fun K hK => ?_); (focus (go_simp; done)); go_simp; refine hK _ ?_; clear hK K) | (refine CanT.pur rfl ?_ ?_; (focus (go_simp; done)); refine ⟨?_, ?_, ?_⟩; rotate_left; (focus (intro w'; go_simp; rfl)); (focus (intro K hK; go_simp; refine hK _ ?_; clear hK K))) | (refine CanT.cellG rfl ?_ (.int .i64 m5) (.int .i64 m5) ⟨gy, 1, none⟩ (fun w1 h => h.1.1) ?_ (fun K hK => ?_); (focus (go_simp; done)); (focus (intro w' hc'; go_simp; (try rfl))); go_simp; refine hK _ ?_; clear hK K) | (refine CanT.cellG rfl ?_ (.slice YA b5.length yc) (.slice YA b5.length yc) ⟨gy, 2, none⟩ (fun w1 h => h.1.2) ?_ (fun K hK => ?_); (focus (go_simp; done)); (focus (intro w' hc'; go_simp; (try rfl))); go_simp; refine hK _ ?_; clear hK K) | (refine CanT.cellG rfl ?_ (.int .i64 m4) (.int .i64 m4) ⟨gx, 1, none⟩ (fun w1 h => h.2.1) ?_ (fun K hK => ?_); (focus (go_simp; done)); (focus (intro w' hc'; go_simp; (try rfl))); go_simp; refine hK _ ?_; clear hK K) | (refine CanT.cellG rfl ?_ (.slice XA b4.length xc) (.slice XA b4.length xc) ⟨gx, 2, none⟩ (fun w1 h => h.2.2) ?_ (fun K hK => ?_); (focus (go_simp; done)); (focus (intro w' hc'; go_simp; (try rfl))); go_simp; refine hK _ ?_; clear hK K))
    refine CanT.imp rfl (fun K hK => ?_)
    go_simp
    refine Calls.mono Hsm.out ?_
    rintro ee ww ⟨rfl, hb⟩
    have HDf := Lib.hid (HDe.out.below hb)
    have HFf := Lib.hid (HFe.out.below hb)
    have HWf := Lib.hid (HWe.out.trans (hb.mono HWe.out.size))
    have Hbe := Lib.hid hb
    have hfc := HFC.out _ hb
    clear hb
    (try go_simp)
    refine hK.out _ _ hfc ?_
    clear hK K
    repeat (first | (refine CanT.skip rfl ?_ (fun K hK => ?_); (focus (go_simp; done)); go_simp; refine hK _ ?_; clear hK K) | (refine CanT.pur rfl ?_ ?_; (focus (go_simp; done)); refine ⟨?_, ?_, ?_⟩; rotate_left; (focus (intro w'; go_simp; rfl)); (focus (intro K hK; go_simp; refine hK _ ?_; clear hK K))) | (refine CanT.cellG rfl ?_ (.int .i64 m5) (.int .i64 m5) ⟨gy, 1, none⟩ (fun w1 h => h.1.1) ?_ (fun K hK => ?_); (focus (go_simp; done)); (focus (intro w' hc'; go_simp; (try rfl))); go_simp; refine hK _ ?_; clear hK K) | (refine CanT.cellG rfl ?_ (.slice YA b5.length yc) (.slice YA b5.length yc) ⟨gy, 2, none⟩ (fun w1 h => h.1.2) ?_ (fun K hK => ?_); (focus (go_simp; done)); (focus (intro w' hc'; go_simp; (try rfl))); go_simp; refine hK _ ?_; clear hK K) | (refine CanT.cellG rfl ?_ (.int .i64 m4) (.int .i64 m4) ⟨gx, 1, none⟩ (fun w1 h => h.2.1) ?_ (fun K hK => ?_); (focus (go_simp; done)); (focus (intro w' hc'; go_simp; (try rfl))); go_simp; refine hK _ ?_; clear hK K) | (refine CanT.cellG rfl ?_ (.slice XA b4.length xc) (.slice XA b4.length xc) ⟨gx, 2, none⟩ (fun w1 h => h.2.2) ?_ (fun K hK => ?_); (focus (go_simp; done)); (focus (intro w' hc'; go_simp; (try rfl))); go_simp; refine hK _ ?_; clear hK K))
    refine CanT.imp rfl (fun K hK => ?_)
    go_simp
    refine Calls.mono (made_calls HFf.out) ?_
    rintro ee ww ⟨rfl, rfl⟩
    (try go_simp)
    refine hK.out _ _ hfc ?_
    clear hK K
    repeat (first | (refine CanT.skip rfl ?_ (fun K hK => ?_); (focus (go_simp; done)); go_simp; refine hK _ ?_; clear hK K) | (refine CanT.pur rfl ?_ ?_; (focus (go_simp; done)); refine ⟨?_, ?_, ?_⟩; rotate_left; (focus (intro w'; go_simp; rfl)); (focus (intro K hK; go_simp; refine hK _ ?_; clear hK K))) | (refine CanT.cellG rfl ?_ (.int .i64 m5) (.int .i64 m5) ⟨gy, 1, none⟩ (fun w1 h => h.1.1) ?_ (fun K hK => ?_); (focus (go_simp; done)); (focus (intro w' hc'; go_simp; (try rfl))); go_simp; refine hK _ ?_; clear hK K) | (refine CanT.cellG rfl ?_ (.slice YA b5.length yc) (.slice YA b5.length yc) ⟨gy, 2, none⟩ (fun w1 h => h.1.2) ?_ (fun K hK => ?_); (focus (go_simp; done)); (focus (intro w' hc'; go_simp; (try rfl))); go_simp; refine hK _ ?_; clear hK K) | (refine CanT.cellG rfl ?_ (.int .i64 m4) (.int .i64 m4) ⟨gx, 1, none⟩ (fun w1 h => h.2.1) ?_ (fun K hK => ?_); (focus (go_simp; done)); (focus (intro w' hc'; go_simp; (try rfl))); go_simp; refine hK _ ?_; clear hK K) | (refine CanT.cellG rfl ?_ (.slice XA b4.length xc) (.slice XA b4.length xc) ⟨gx, 2, none⟩ (fun w1 h => h.2.2) ?_ (fun K hK => ?_); (focus (go_simp; done)); (focus (intro w' hc'; go_simp; (try rfl))); go_simp; refine hK _ ?_; clear hK K))
    refine CanT.imp rfl (fun K hK => ?_)
    go_simp
    refine Calls.mono (rest_calls HFf.out) ?_
    rintro ee ww ⟨rfl, rfl⟩
    (try go_simp)
    refine hK.out _ _ hfc ?_
    clear hK K
    repeat (first | (refine CanT.skip rfl ?_ (fun K hK => ?_); (focus (go_simp; done)); go_simp; refine hK _ ?_; clear hK K) | (refine CanT.pur rfl ?_ ?_; (focus (go_simp; done)); refine ⟨?_, ?_, ?_⟩; rotate_left; (focus (intro w'; go_simp; rfl)); (focus (intro K hK; go_simp; refine hK _ ?_; clear hK K))) | (refine CanT.cellG rfl ?_ (.int .i64 m5) (.int .i64 m5) ⟨gy, 1, none⟩ (fun w1 h => h.1.1) ?_ (fun K hK => ?_); (focus (go_simp; done)); (focus (intro w' hc'; go_simp; (try rfl))); go_simp; refine hK _ ?_; clear hK K) | (refine CanT.cellG rfl ?_ (.slice YA b5.length yc) (.slice YA b5.length yc) ⟨gy, 2, none⟩ (fun w1 h => h.1.2) ?_ (fun K hK => ?_); (focus (go_simp; done)); (focus (intro w' hc'; go_simp; (try rfl))); go_simp; refine hK _ ?_; clear hK K) | (refine CanT.cellG rfl ?_ (.int .i64 m4) (.int .i64 m4) ⟨gx, 1, none⟩ (fun w1 h => h.2.1) ?_ (fun K hK => ?_); (focus (go_simp; done)); (focus (intro w' hc'; go_simp; (try rfl))); go_simp; refine hK _ ?_; clear hK K) | (refine CanT.cellG rfl ?_ (.slice XA b4.length xc) (.slice XA b4.length xc) ⟨gx, 2, none⟩ (fun w1 h => h.2.2) ?_ (fun K hK => ?_); (focus (go_simp; done)); (focus (intro w' hc'; go_simp; (try rfl))); go_simp; refine hK _ ?_; clear hK K))
    refine CanT.imp rfl (fun K hK => ?_)
    go_simp
    refine Calls.mono (made_calls HDf.out) ?_
    rintro ee ww ⟨rfl, rfl⟩
    (try go_simp)
    refine hK.out _ _ hfc ?_
    clear hK K
    repeat (first | (refine CanT.skip rfl ?_ (fun K hK => ?_); (focus (go_simp; done)); go_simp; refine hK _ ?_; clear hK K) | (refine CanT.pur rfl ?_ ?_; (focus (go_simp; done)); refine ⟨?_, ?_, ?_⟩; rotate_left; (focus (intro w'; go_simp; rfl)); (focus (intro K hK; go_simp; refine hK _ ?_; clear hK K))) | (refine CanT.cellG rfl ?_ (.int .i64 m5) (.int .i64 m5) ⟨gy, 1, none⟩ (fun w1 h => h.1.1) ?_ (fun K hK => ?_); (focus (go_simp; done)); (focus (intro w' hc'; go_simp; (try rfl))); go_simp; refine hK _ ?_; clear hK K) | (refine CanT.cellG rfl ?_ (.slice YA b5.length yc) (.slice YA b5.length yc) ⟨gy, 2, none⟩ (fun w1 h => h.1.2) ?_ (fun K hK => ?_); (focus (go_simp; done)); (focus (intro w' hc'; go_simp; (try rfl))); go_simp; refine hK _ ?_; clear hK K) | (refine CanT.cellG rfl ?_ (.int .i64 m4) (.int .i64 m4) ⟨gx, 1, none⟩ (fun w1 h => h.2.1) ?_ (fun K hK => ?_); (focus (go_simp; done)); (focus (intro w' hc'; go_simp; (try rfl))); go_simp; refine hK _ ?_; clear hK K) | (refine CanT.cellG rfl ?_ (.slice XA b4.length xc) (.slice XA b4.length xc) ⟨gx, 2, none⟩ (fun w1 h => h.2.2) ?_ (fun K hK => ?_); (focus (go_simp; done)); (focus (intro w' hc'; go_simp; (try rfl))); go_simp; refine hK _ ?_; clear hK K))
    refine CanT.imp rfl (fun K hK => ?_)
    go_simp
    refine Calls.mono (rest_calls HDf.out) ?_
    rintro ee ww ⟨rfl, rfl⟩
    (try go_simp)
    refine hK.out _ _ hfc ?_
    clear hK K
    repeat (first | (refine CanT.skip rfl ?_ (fun K hK => ?_); (focus (go_simp; done)); go_simp; refine hK _ ?_; clear hK K) | (refine CanT.pur rfl ?_ ?_; (focus (go_simp; done)); refine ⟨?_, ?_, ?_⟩; rotate_left; (focus (intro w'; go_simp; rfl)); (focus (intro K hK; go_simp; refine hK _ ?_; clear hK K))) | (refine CanT.cellG rfl ?_ (.int .i64 m5) (.int .i64 m5) ⟨gy, 1, none⟩ (fun w1 h => h.1.1) ?_ (fun K hK => ?_); (focus (go_simp; done)); (focus (intro w' hc'; go_simp; (try rfl))); go_simp; refine hK _ ?_; clear hK K) | (refine CanT.cellG rfl ?_ (.slice YA b5.length yc) (.slice YA b5.length yc) ⟨gy, 2, none⟩ (fun w1 h => h.1.2) ?_ (fun K hK => ?_); (focus (go_simp; done)); (focus (intro w' hc'; go_simp; (try rfl))); go_simp; refine hK _ ?_; clear hK K) | (refine CanT.cellG rfl ?_ (.int .i64 m4) (.int .i64 m4) ⟨gx, 1, none⟩ (fun w1 h => h.2.1) ?_ (fun K hK => ?_); (focus (go_simp; done)); (focus (intro w' hc'; go_simp; (try rfl))); go_simp; refine hK _ ?_; clear hK K) | (refine CanT.cellG rfl ?_ (.slice XA b4.length xc) (.slice XA b4.length xc) ⟨gx, 2, none⟩ (fun w1 h => h.2.2) ?_ (fun K hK => ?_); (focus (go_simp; done)); (focus (intro w' hc'; go_simp; (try rfl))); go_simp; refine hK _ ?_; clear hK K))
    refine CanT.imp rfl (fun K hK => ?_)
    go_simp
    refine Calls.mono (made_nil _) ?_
    rintro ee ww ⟨rfl, rfl⟩
    (try go_simp)
    refine hK.out _ _ hfc ?_
    clear hK K
    repeat (first | (refine CanT.skip rfl ?_ (fun K hK => ?_); (focus (go_simp; done)); go_simp; refine hK _ ?_; clear hK K) | (refine CanT.pur rfl ?_ ?_; (focus (go_simp; done)); refine ⟨?_, ?_, ?_⟩; rotate_left; (focus (intro w'; go_simp; rfl)); (focus (intro K hK; go_simp; refine hK _ ?_; clear hK K))) | (refine CanT.cellG rfl ?_ (.int .i64 m5) (.int .i64 m5) ⟨gy, 1, none⟩ (fun w1 h => h.1.1) ?_ (fun K hK => ?_); (focus (go_simp; done)); (focus (intro w' hc'; go_simp; (try rfl))); go_simp; refine hK _ ?_; clear hK K) | (refine CanT.cellG rfl ?_ (.slice YA b5.length yc) (.slice YA b5.length yc) ⟨gy, 2, none⟩ (fun w1 h => h.1.2) ?_ (fun K hK => ?_); (focus (go_simp; done)); (focus (intro w' hc'; go_simp; (try rfl))); go_simp; refine hK _ ?_; clear hK K) | (refine CanT.cellG rfl ?_ (.int .i64 m4) (.int .i64 m4) ⟨gx, 1, none⟩ (fun w1 h => h.2.1) ?_ (fun K hK => ?_); (focus (go_simp; done)); (focus (intro w' hc'; go_simp; (try rfl))); go_simp; refine hK _ ?_; clear hK K) | (refine CanT.cellG rfl ?_ (.slice XA b4.length xc) (.slice XA b4.length xc) ⟨gx, 2, none⟩ (fun w1 h => h.2.2) ?_ (fun K hK => ?_); (focus (go_simp; done)); (focus (intro w' hc'; go_simp; (try rfl))); go_simp; refine hK _ ?_; clear hK K))
    refine CanT.imp rfl (fun K hK => ?_)
    go_simp
    refine Calls.mono (rest_nil _) ?_
    rintro ee ww ⟨rfl, rfl⟩
    (try go_simp)
    refine hK.out _ _ hfc ?_
    clear hK K
    repeat (first | (refine CanT.skip rfl ?_ (fun K hK => ?_); (focus (go_simp; done)); go_simp; refine hK _ ?_; clear hK K) | (refine CanT.pur rfl ?_ ?_; (focus (go_simp; done)); refine ⟨?_, ?_, ?_⟩; rotate_left; (focus (intro w'; go_simp; rfl)); (focus (intro K hK; go_simp; refine hK _ ?_; clear hK K))) | (refine CanT.cellG rfl ?_ (.int .i64 m5) (.int .i64 m5) ⟨gy, 1, none⟩ (fun w1 h => h.1.1) ?_ (fun K hK => ?_); (focus (go_simp; done)); (focus (intro w' hc'; go_simp; (try rfl))); go_simp; refine hK _ ?_; clear hK K) | (refine CanT.cellG rfl ?_ (.slice YA b5.length yc) (.slice YA b5.length yc) ⟨gy, 2, none⟩ (fun w1 h => h.1.2) ?_ (fun K hK => ?_); (focus (go_simp; done)); (focus (intro w' hc'; go_simp; (try rfl))); go_simp; refine hK _ ?_; clear hK K) | (refine CanT.cellG rfl ?_ (.int .i64 m4) (.int .i64 m4) ⟨gx, 1, none⟩ (fun w1 h => h.2.1) ?_ (fun K hK => ?_); (focus (go_simp; done)); (focus (intro w' hc'; go_simp; (try rfl))); go_simp; refine hK _ ?_; clear hK K) | (refine CanT.cellG rfl ?_ (.slice XA b4.length xc) (.slice XA b4.length xc) ⟨gx, 2, none⟩ (fun w1 h => h.2.2) ?_ (fun K hK => ?_); (focus (go_simp; done)); (focus (intro w' hc'; go_simp; (try rfl))); go_simp; refine hK _ ?_; clear hK K))
    refine CanT.imp rfl (fun K hK => ?_)
    go_simp
    refine Calls.mono (fork_nil _) ?_
    rintro ee ww ⟨rfl, rfl⟩
    (try go_simp)
    refine hK.out _ _ hfc ?_
    clear hK K
    repeat (first | (refine CanT.skip rfl ?_ (fun K hK => ?_); (focus (go_simp; done)); go_simp; refine hK _ ?_; clear hK K) | (refine CanT.pur rfl ?_ ?_; (focus (go_simp; done)); refine ⟨?_, ?_, ?_⟩; rotate_left; (focus (intro w'; go_simp; rfl)); (focus (intro K hK; go_simp; refine hK _ ?_; clear hK K))) | (refine CanT.cellG rfl ?_ (.int .i64 m5) (.int .i64 m5) ⟨gy, 1, none⟩ (fun w1 h => h.1.1) ?_ (fun K hK => ?_); (focus (go_simp; done)); (focus (intro w' hc'; go_simp; (try rfl))); go_simp; refine hK _ ?_; clear hK K) | (refine CanT.cellG rfl ?_ (.slice YA b5.length yc) (.slice YA b5.length yc) ⟨gy, 2, none⟩ (fun w1 h => h.1.2) ?_ (fun K hK => ?_); (focus (go_simp; done)); (focus (intro w' hc'; go_simp; (try rfl))); go_simp; refine hK _ ?_; clear hK K) | (refine CanT.cellG rfl ?_ (.int .i64 m4) (.int .i64 m4) ⟨gx, 1, none⟩ (fun w1 h => h.2.1) ?_ (fun K hK => ?_); (focus (go_simp; done)); (focus (intro w' hc'; go_simp; (try rfl))); go_simp; refine hK _ ?_; clear hK K) | (refine CanT.cellG rfl ?_ (.slice XA b4.length xc) (.slice XA b4.length xc) ⟨gx, 2, none⟩ (fun w1 h => h.2.2) ?_ (fun K hK => ?_); (focus (go_simp; done)); (focus (intro w' hc'; go_simp; (try rfl))); go_simp; refine hK _ ?_; clear hK K))
    refine CanT.imp rfl (fun K hK => ?_)
    go_simp
    refine Calls.mono (Haw.out _) ?_
    rintro ee ww ⟨rfl, hb⟩
    (try go_simp)
    refine hK.out _ _ (HFC.out _ (Hbe.out.trans (hb.mono Hbe.out.size))) ?_
    clear hK K
    repeat (first | (refine CanT.skip rfl ?_ (fun K hK => ?_); (focus (go_simp; done)); go_simp; refine hK _ ?_; clear hK K) | (refine CanT.pur rfl ?_ ?_; (focus (go_simp; done)); refine ⟨?_, ?_, ?_⟩; rotate_left; (focus (intro w'; go_simp; rfl)); (focus (intro K hK; go_simp; refine hK _ ?_; clear hK K))) | (refine CanT.cellG rfl ?_ (.int .i64 m5) (.int .i64 m5) ⟨gy, 1, none⟩ (fun w1 h => h.1.1) ?_ (fun K hK => ?_); (focus (go_simp; done)); (focus (intro w' hc'; go_simp; (try rfl))); go_simp; refine hK _ ?_; clear hK K) | (refine CanT.cellG rfl ?_ (.slice YA b5.length yc) (.slice YA b5.length yc) ⟨gy, 2, none⟩ (fun w1 h => h.1.2) ?_ (fun K hK => ?_); (focus (go_simp; done)); (focus (intro w' hc'; go_simp; (try rfl))); go_simp; refine hK _ ?_; clear hK K) | (refine CanT.cellG rfl ?_ (.int .i64 m4) (.int .i64 m4) ⟨gx, 1, none⟩ (fun w1 h => h.2.1) ?_ (fun K hK => ?_); (focus (go_simp; done)); (focus (intro w' hc'; go_simp; (try rfl))); go_simp; refine hK _ ?_; clear hK K) | (refine CanT.cellG rfl ?_ (.slice XA b4.length xc) (.slice XA b4.length xc) ⟨gx, 2, none⟩ (fun w1 h => h.2.2) ?_ (fun K hK => ?_); (focus (go_simp; done)); (focus (intro w' hc'; go_simp; (try rfl))); go_simp; refine hK _ ?_; clear hK K))
    refine CanT.done ?_
    go_wp2_with fail
    go_ret
    exact ⟨rfl, HWf.out.trans (hb.mono HWf.out.size)⟩
  · refine CanT.imp rfl (fun K hK => ?_)
    go_simp
    have hb6 : Below wd.heap.size wd (wd.alloc (.cells #[.int .i64 0, .int .i64 0, .slice none 0 0, .int .i64 0] 37)) := (Below.refl _ _).alloc (Nat.le_refl _) _
    refine hK.out _ _ (fun jj v hv => (hb6.cell (p := ⟨gx, 0 + jj, none⟩) HXd.out.lt).trans (Hrx.out jj v hv)) ?_
    clear hK K
    have hy00 := Blk.new wd 37 #[.int .i64 0, .int .i64 0, .slice none 0 0, .int .i64 0]
    refine CanT.imp rfl (fun K hK => ?_)
    go_simp
    refine Calls.mono (Hfk.out _ (HDd.out.below hb6)) ?_
    rintro e6 w7 ⟨gf, rfl, hgf0, hDf7, hb70⟩
    have hb7 : Below wd.heap.size wd w7 := hb6.trans (hb70.mono hb6.size)
    (try go_simp)
    refine hK.out _ _ (fun jj v hv => (hb7.cell (p := ⟨gx, 0 + jj, none⟩) HXd.out.lt).trans (Hrx.out jj v hv)) ?_
    clear hK K
    have hy0 := hy00.below hb70 hy00.lt
    have hgf : wd.heap.size ≤ gf := Nat.le_trans hb6.size hgf0
    have hgy : wd.heap.size ≤ wd.heap.size := Nat.le_refl _
    have hfy2 : gf ≠ wd.heap.size := by simp at hgf0; omega
    clear hgf0 hb70 hy00 hb6
    obtain ⟨gy, hgyy⟩ : ∃ gy, gy = wd.heap.size := ⟨_, rfl⟩
    rw [← hgyy] at hy0 hfy2 ⊢
    have hgy : wd.heap.size ≤ gy := by omega
    clear hgyy
    repeat (first | (refine CanT.skip rfl ?_ (fun K hK => ?_); (focus (go_simp; done)); go_simp; refine hK _ ?_; clear hK K) | (refine CanT.pur rfl ?_ ?_; (focus (go_simp; done)); refine ⟨?_, ?_, ?_⟩; rotate_left; (focus (intro w'; go_simp; rfl)); (focus (intro K hK; go_simp; refine hK _ ?_; clear hK K))))
    refine CanT.last rfl (fun K hK => ?_)
    refine step_storeR ?_ 37 (.tmp 10) (.tmp 46) rfl gy #[.int .i64 100, .int .i64 m3, .slice BA b3.length bc, .int .i64 e3] rfl rfl 37 _ hy0 (by kernel_rfl) rfl (all_oneCell_toArray (cs := [.int .i64 100, .int .i64 m3, .slice BA b3.length bc, .int .i64 e3]) (fun u hu => by simp only [List.mem_cons, List.not_mem_nil, or_false] at hu; rcases hu with rfl | rfl | rfl | rfl <;> rfl)) ?_
    focus (go_simp; done)
    intro w8 hS8 hg8
    have hbk : ∃ t cs, Blk w7 gy t cs ∧ 5 ≠ t := ⟨_, _, hy0, rdec_ne⟩
    have hgxw := HXd.out.lt
    have Hgf : Hid (gx < gf) := Lib.hid (by omega)
    have Hgy : Hid (gx < gy) := Lib.hid (by omega)
    have Hfy : Hid (gf ≠ gy) := Lib.hid hfy2
    have HD := Lib.hid (isD_row (HDd.out.below hb7) hg8 (by have := Hgg.out; have := Hgf.out; have := Hgy.out; have := Hfy.out; omega) hbk)
    have HF := Lib.hid (isD_row hDf7 hg8 (by have := Hgg.out; have := Hgf.out; have := Hgy.out; have := Hfy.out; omega) hbk)
    have HX := Lib.hid ((HXd.out.below hb7).row hg8 (by have := Hgg.out; have := Hgf.out; have := Hgy.out; have := Hfy.out; omega) hbk)
    have HY : Hid (IsX w8 gy ⟨m3, b3, e3⟩) := Lib.hid ⟨BA, bc, hS8, Hpx.out, Hmx.out, (HRd.out.below hb7).row hg8 (fun g' hg' => by injection hg' with hg'; subst hg'; exact hbk)⟩
    have HW : Hid (Below w.heap.size w w8) := Lib.hid (HWd.out.trans ((hb7.trans (below_of_only hg8 hgy hb7.size)).mono HWd.out.size))
    (try go_simp)
    refine hK.out _ _ ?_
    clear hK K hS8 hg8 hbk hgxw hfy2 hgf hgy hy0 hDf7 hb7 HXd HDd HWd HRd Hrx Hpx Hmx Hfk
    repeat (first | (refine CanT.skip rfl ?_ (fun K hK => ?_); (focus (go_simp; done)); go_simp; refine hK _ ?_; clear hK K) | (refine CanT.pur rfl ?_ ?_; (focus (go_simp; done)); refine ⟨?_, ?_, ?_⟩; rotate_left; (focus (intro w'; go_simp; rfl)); (focus (intro K hK; go_simp; refine hK _ ?_; clear hK K))))
    refine CanT.done ?_
    have hfd := feed_calls g 100 m3 b3 e3 b Ab lb cb Hlb.out hb hbc (by omega) ⟨Hi3.out.1, Hi3.out.2.1⟩ (by have h5 : b3.length ≤ 0 + a.length := Hi3.out.2.2; have h6 := Hla.out; omega) _ HD.out ((Hrb.out.below HW.out).more HW.out.size)
    have Hfd := Lib.hid hfd
    have hi := feed_inv 100 ⟨m3, b3, e3⟩ b Hi3.out.1 Hi3.out.2.1
    clear hfd
    go_wp2_with fail
    refine Calls.mono Hfd.out ?_
    rintro e9 wn ⟨v4, M4, rfl, hO4, hop4, hD4, hgd⟩
    obtain ⟨F4, hF4⟩ : ∃ F, F = feed 100 ⟨m3, b3, e3⟩ b := ⟨_, rfl⟩
    rw [← hF4] at hop4 hD4 hi ⊢
    obtain ⟨⟨m4, b4, e4⟩, o4, r4⟩ := F4
    simp only at hop4 hD4 hi ⊢
    have HF4 := Lib.hid hF4
    have Hop4 := Lib.hid hop4
    have Hi4 := Lib.hid hi
    have hbk := isD_blk HD.out
    have hbkO := isD_blkO HD.out
    have HF := Lib.hid (isD_row HF.out hgd (by have := Hgg.out; have := Hgf.out; have := Hgy.out; have := Hfy.out; omega) hbk)
    have HX := Lib.hid (HX.out.row hgd (by have := Hgg.out; have := Hgf.out; have := Hgy.out; have := Hfy.out; omega) hbk)
    have HY := Lib.hid (HY.out.row hgd (by have := Hgg.out; have := Hgf.out; have := Hgy.out; have := Hfy.out; omega) hbk)
    have HD := Lib.hid hD4
    have HM4 := Lib.hid hO4
    have HW : Hid (Below w.heap.size w wn) := Lib.hid (HW.out.trans (below_of_only hgd Hg.out HW.out.size))
    clear hF4 hD4 hO4 hop4 hi hgd Hfd hbk hbkO
    obtain ⟨BA4, bc4, hB4, hp4, hm4, hR4⟩ := HX.out
    have hrx : World.rangeAt _ gx 0 [.int .i64 100, .int .i64 m3, .slice BA4 b3.length bc4, .int .i64 e3] := fun jj v hv => by rw [Blk.cell hB4, Nat.zero_add]; simpa using hv
    have hrf := rfeed_calls 100 m3 b3 e3 BA4 bc4 b Ab lb cb Hlb.out hb hbc hp4 hm4 (by omega) ⟨Hi3.out.1, Hi3.out.2.1⟩ (by have h5 : b3.length ≤ 0 + a.length := Hi3.out.2.2; have h6 := Hla.out; omega) _ hR4 ((Hrb.out.below HW.out).more HW.out.size)
    have Hrx := Lib.hid hrx
    have Hrf := Lib.hid hrf
    clear hrx hrf hB4 hp4 hm4 hR4
    go_wp2_with (refine wpList_load_mid rfl 37 (.tmp 8) rfl gx 0 rfl [.int .i64 100, .int .i64 m3, .slice BA4 b3.length bc4, .int .i64 e3] _ Hrx.out Try.underlying37 rfl (by kernel_rfl) ?_)
    refine Calls.mono Hrf.out ?_
    rintro e4 wn ⟨hbn, A4, c4, w4v, N4, rfl, hO, hop, hp, hm, hR⟩
    rw [← HF4.out] at hop hp hR ⊢
    simp only at hop hp hR ⊢
    have HD := Lib.hid (HD.out.below hbn)
    have HF := Lib.hid (HF.out.below hbn)
    have HX := Lib.hid (HX.out.below hbn)
    have HY := Lib.hid (HY.out.below hbn)
    have HW := Lib.hid (HW.out.trans (hbn.mono HW.out.size))
    have HN4 := Lib.hid hO
    have HoN4 := Lib.hid hop
    obtain ⟨BA4, bc4, hB4, -, -, -⟩ := HX.out
    have HB4 := Lib.hid hB4
    have HR4 := Lib.hid hR
    have Hp4 := Lib.hid hp
    have Hm4 := Lib.hid hm
    clear hbn hO hop hp hm hR hB4 Hrx Hrf
    go_wp2_with (refine Sm.wpList_store_blk rfl 37 (.tmp 8) (.tmp 60) rfl gx 0 37 [] [.int .i64 100, .int .i64 m3, .slice BA4 b3.length bc4, .int .i64 e3] [] [.int .i64 100, .int .i64 m4, .slice A4 b4.length c4, .int .i64 e4] rfl rfl HB4.out rfl rfl (by kernel_rfl) (fun u hu => by simp only [List.mem_cons, List.not_mem_nil, or_false] at hu; rcases hu with rfl | rfl | rfl | rfl <;> rfl) ?_; intro wm hS5 hg5)
    have hbk := isX_blk HX.out
    have hbkO := isX_blkO HX.out
    have HD := Lib.hid (isD_row HD.out hg5 (by have := Hgg.out; have := Hgf.out; have := Hgy.out; have := Hfy.out; omega) hbk)
    have HF := Lib.hid (isD_row HF.out hg5 (by have := Hgg.out; have := Hgf.out; have := Hgy.out; have := Hfy.out; omega) hbk)
    have HY := Lib.hid (HY.out.row hg5 (by have := Hgg.out; have := Hgf.out; have := Hgy.out; have := Hfy.out; omega) hbk)
    have HN4 := Lib.hid (own_row HN4.out hg5 hbkO)
    have HX : Hid (IsX wm gx ⟨m4, b4, e4⟩) := Lib.hid ⟨A4, c4, by simpa using hS5, Hp4.out, Hm4.out, HR4.out.row hg5 (fun g' hg' => by injection hg' with hg'; subst hg'; exact hbk)⟩
    have HW : Hid (Below w.heap.size w wm) := Lib.hid (HW.out.trans (below_of_only hg5 (by have := Hgx.out; have := Hgy.out; omega) HW.out.size))
    clear hS5 hg5 hbk hbkO HB4 HR4 Hp4 Hm4
    have hfd := feed_calls gf 100 m3 b3 e3 c Ac lc cc Hlc.out hc hcc (by omega) ⟨Hi3.out.1, Hi3.out.2.1⟩ (by have h5 : b3.length ≤ 0 + a.length := Hi3.out.2.2; have h6 := Hla.out; omega) _ HF.out ((Hrc.out.below HW.out).more HW.out.size)
    have Hfd := Lib.hid hfd
    have hi := feed_inv 100 ⟨m3, b3, e3⟩ c Hi3.out.1 Hi3.out.2.1
    clear hfd
    go_wp2_with fail
    refine Calls.mono Hfd.out ?_
    rintro e9 wn ⟨v5, M5, rfl, hO5, hop5, hD5, hgd⟩
    obtain ⟨F5, hF5⟩ : ∃ F, F = feed 100 ⟨m3, b3, e3⟩ c := ⟨_, rfl⟩
    rw [← hF5] at hop5 hD5 hi ⊢
    obtain ⟨⟨m5, b5, e5⟩, o5, r5⟩ := F5
    simp only at hop5 hD5 hi ⊢
    have HF5 := Lib.hid hF5
    have Hop5 := Lib.hid hop5
    have Hi5 := Lib.hid hi
    have hbk := isD_blk HF.out
    have hbkO := isD_blkO HF.out
    have HD := Lib.hid (isD_row HD.out hgd (by have := Hgg.out; have := Hgf.out; have := Hgy.out; have := Hfy.out; omega) hbk)
    have HX := Lib.hid (HX.out.row hgd (by have := Hgg.out; have := Hgf.out; have := Hgy.out; have := Hfy.out; omega) hbk)
    have HY := Lib.hid (HY.out.row hgd (by have := Hgg.out; have := Hgf.out; have := Hgy.out; have := Hfy.out; omega) hbk)
    have HF := Lib.hid hD5
    have HM5 := Lib.hid hO5
    have HW : Hid (Below w.heap.size w wn) := Lib.hid (HW.out.trans (below_of_only hgd (by have := Hgx.out; have := Hgf.out; omega) HW.out.size))
    clear hF5 hD5 hO5 hop5 hi hgd Hfd hbk hbkO
    obtain ⟨BA5, bc5, hB5, hp5, hm5, hR5⟩ := HY.out
    have hrx : World.rangeAt _ gy 0 [.int .i64 100, .int .i64 m3, .slice BA5 b3.length bc5, .int .i64 e3] := fun jj v hv => by rw [Blk.cell hB5, Nat.zero_add]; simpa using hv
    have hrf := rfeed_calls 100 m3 b3 e3 BA5 bc5 c Ac lc cc Hlc.out hc hcc hp5 hm5 (by omega) ⟨Hi3.out.1, Hi3.out.2.1⟩ (by have h5 : b3.length ≤ 0 + a.length := Hi3.out.2.2; have h6 := Hla.out; omega) _ hR5 ((Hrc.out.below HW.out).more HW.out.size)
    have Hrx := Lib.hid hrx
    have Hrf := Lib.hid hrf
    clear hrx hrf hB5 hp5 hm5 hR5
    go_wp2_with (refine wpList_load_mid rfl 37 (.tmp 10) rfl gy 0 rfl [.int .i64 100, .int .i64 m3, .slice BA5 b3.length bc5, .int .i64 e3] _ Hrx.out Try.underlying37 rfl (by kernel_rfl) ?_)
    refine Calls.mono Hrf.out ?_
    rintro e4 wn ⟨hbn, A5, c5, w5v, N5, rfl, hO, hop, hp, hm, hR⟩
    rw [← HF5.out] at hop hp hR ⊢
    simp only at hop hp hR ⊢
    have HD := Lib.hid (HD.out.below hbn)
    have HF := Lib.hid (HF.out.below hbn)
    have HX := Lib.hid (HX.out.below hbn)
    have HY := Lib.hid (HY.out.below hbn)
    have HM5 := Lib.hid (HM5.out.keptB hbn)
    have HW := Lib.hid (HW.out.trans (hbn.mono HW.out.size))
    have HN5 := Lib.hid hO
    have HoN5 := Lib.hid hop
    obtain ⟨BA4, bc4, hB4, -, -, -⟩ := HY.out
    have HB4 := Lib.hid hB4
    have HR4 := Lib.hid hR
    have Hp4 := Lib.hid hp
    have Hm4 := Lib.hid hm
    clear hbn hO hop hp hm hR hB4 Hrx Hrf
    go_wp2_with (refine Sm.wpList_store_blk rfl 37 (.tmp 10) (.tmp 73) rfl gy 0 37 [] [.int .i64 100, .int .i64 m3, .slice BA4 b3.length bc4, .int .i64 e3] [] [.int .i64 100, .int .i64 m5, .slice A5 b5.length c5, .int .i64 e5] rfl rfl HB4.out rfl rfl (by kernel_rfl) (fun u hu => by simp only [List.mem_cons, List.not_mem_nil, or_false] at hu; rcases hu with rfl | rfl | rfl | rfl <;> rfl) ?_; intro wm hS5 hg5)
    have hbk := isX_blk HY.out
    have hbkO := isX_blkO HY.out
    have HD := Lib.hid (isD_row HD.out hg5 (by have := Hgg.out; have := Hgf.out; have := Hgy.out; have := Hfy.out; omega) hbk)
    have HF := Lib.hid (isD_row HF.out hg5 (by have := Hgg.out; have := Hgf.out; have := Hgy.out; have := Hfy.out; omega) hbk)
    have HX := Lib.hid (HX.out.row hg5 (by have := Hgg.out; have := Hgf.out; have := Hgy.out; have := Hfy.out; omega) hbk)
    have HM5 := Lib.hid (own_row HM5.out hg5 hbkO)
    have HN5 := Lib.hid (own_row HN5.out hg5 hbkO)
    have HY : Hid (IsX wm gy ⟨m5, b5, e5⟩) := Lib.hid ⟨A5, c5, by simpa using hS5, Hp4.out, Hm4.out, HR4.out.row hg5 (fun g' hg' => by injection hg' with hg'; subst hg'; exact hbk)⟩
    have HW : Hid (Below w.heap.size w wm) := Lib.hid (HW.out.trans (below_of_only hg5 (by have := Hgx.out; have := Hgy.out; omega) HW.out.size))
    clear hS5 hg5 hbk hbkO HB4 HR4 Hp4 Hm4
    go_wp2_with fail
    refine Calls.mono (feed_nil Aa la ca _) ?_
    rintro e9 w9 ⟨rfl, rfl⟩
    obtain ⟨XA, xc, hbx, -, -, -⟩ := HX.out
    obtain ⟨YA, yc, hby, -, -, -⟩ := HY.out
    have HBX := Lib.hid hbx
    have HBY := Lib.hid hby
    clear hbx hby
    obtain ⟨Am, cm, hvm, hs1, hs2, hLm, -⟩ := (HM5.out.keptB ((Below.refl _ _).drew)).opens
    obtain ⟨An, cn, hvn, hs3, hs4, hLn, -⟩ := (HN5.out.keptB ((Below.refl _ _).drew)).opens
    subst hvm hvn
    obtain ⟨lm, hlm⟩ : ∃ l, l = M5.length := ⟨_, rfl⟩
    obtain ⟨ln, hln⟩ : ∃ l, l = N5.length := ⟨_, rfl⟩
    have hsm := same_calls M5 N5 Am lm cm An ln cn hlm hln (by omega) (by omega) _ hLm hLn
    rw [Hop5.out, HoN5.out, same_refl] at hsm
    rw [← hlm, ← hln]
    have Hsm := Lib.hid hsm
    clear hsm hlm hln hs1 hs2 hs3 hs4 hLm hLn HM5 HN5 Hop5 HoN5
    have k1 : wm.drew.cell? ⟨gy, 1, none⟩ = some (.int .i64 m5) := by
      have : wm.cell? ⟨gy, 1, none⟩ = some (.int .i64 m5) := by rw [Blk.cell HBY.out]; rfl
      exact this
    have k2 : wm.drew.cell? ⟨gy, 2, none⟩ = some (.slice YA b5.length yc) := by
      have : wm.cell? ⟨gy, 2, none⟩ = some (.slice YA b5.length yc) := by rw [Blk.cell HBY.out]; rfl
      exact this
    have k3 : wm.drew.cell? ⟨gx, 1, none⟩ = some (.int .i64 m4) := by
      have : wm.cell? ⟨gx, 1, none⟩ = some (.int .i64 m4) := by rw [Blk.cell HBX.out]; rfl
      exact this
    have k4 : wm.drew.cell? ⟨gx, 2, none⟩ = some (.slice XA b4.length xc) := by
      have : wm.cell? ⟨gx, 2, none⟩ = some (.slice XA b4.length xc) := by rw [Blk.cell HBX.out]; rfl
      exact this
    have HFC : Hid (∀ W : World, Below wm.drew.heap.size wm.drew W → (fun W => (W.cell? ⟨gy, 1, none⟩ = some (.int .i64 m5) ∧ W.cell? ⟨gy, 2, none⟩ = some (.slice YA b5.length yc)) ∧ W.cell? ⟨gx, 1, none⟩ = some (.int .i64 m4) ∧ W.cell? ⟨gx, 2, none⟩ = some (.slice XA b4.length xc)) W) := Lib.hid fun W h => ⟨⟨(h.cell (p := ⟨gy, 1, none⟩) HBY.out.lt).trans k1, (h.cell (p := ⟨gy, 2, none⟩) HBY.out.lt).trans k2⟩, (h.cell (p := ⟨gx, 1, none⟩) HBX.out.lt).trans k3, (h.cell (p := ⟨gx, 2, none⟩) HBX.out.lt).trans k4⟩
    clear k1 k2 k3 k4 HBX HBY HX HY
    go_wp2_with fail
    refine CanT.region (fun W => (W.cell? ⟨gy, 1, none⟩ = some (.int .i64 m5) ∧ W.cell? ⟨gy, 2, none⟩ = some (.slice YA b5.length yc)) ∧ W.cell? ⟨gx, 1, none⟩ = some (.int .i64 m4) ∧ W.cell? ⟨gx, 2, none⟩ = some (.slice XA b4.length xc)) 1000 (.op 0 2 (.op 1 2 (.op 2 0 (.op 3 2 (.op 4 2 (.op 5 2 (.op 6 2 (.op 7 2 (.op 8 2 (.op 9 2 (.op 11 2 (.op 12 1 (.op 10 0 (.op 13 2 (.op 14 2 (.op 15 2 (.op 16 2 (.op 18 2 (.op 19 1 (.op 20 2 (.op 17 0 (.op 21 2 (.op 22 2 (.op 23 2 (.op 24 2 (.op 26 2 (.op 27 1 (.op 25 0 (.op 28 2 (.op 29 2 (.op 30 2 (.op 31 2 (.op 33 2 (.op 34 1 (.op 35 2 (.op 32 0 (.op 36 2 (.op 37 2 (.op 38 2 (.op 39 2 (.op 40 2 (.op 41 2 (.op 42 2 (.op 43 2 (.op 44 0 (.op 45 2 (.op 46 2 (.op 47 2 (.op 48 2 (.op 49 0 (.op 50 2 (.op 51 2 (.op 52 2 (.op 53 2 (.op 54 0 (.op 55 2 (.op 56 2 (.op 57 2 (.op 58 0 (.op 59 2 (.op 60 2 (.nil)))))))))))))))))))))))))))))))))))))))))))))))))))))))))))))) (by kernel_rfl) (by kernel_rfl) (HFC.out _ (Below.refl _ _)) ?_
    have HDe : Hid (IsD wm.drew g 100 m4 b4 e4) := HD
    have HFe : Hid (IsD wm.drew gf 100 m5 b5 e5) := HF
    have HWe := Lib.hid HW.out.drew
    clear HD HF HW
    generalize wm.drew = we at *
    repeat (first | (refine CanT.skip rfl ?_ (fun K hK => ?_); (focus (go_simp; done)); go_simp; refine hK _ ?_; clear hK K) | (refine CanT.pur rfl ?_ ?_; (focus (go_simp; done)); refine ⟨?_, ?_, ?_⟩; rotate_left; (focus (intro w'; go_simp; rfl)); (focus (intro K hK; go_simp; refine hK _ ?_; clear hK K))) | (refine CanT.cellG rfl ?_ (.int .i64 m5) (.int .i64 m5) ⟨gy, 1, none⟩ (fun w1 h => h.1.1) ?_ (fun K hK => ?_); (focus (go_simp; done)); (focus (intro w' hc'; go_simp; (try rfl))); go_simp; refine hK _ ?_; clear hK K) | (refine CanT.cellG rfl ?_ (.slice YA b5.length yc) (.slice YA b5.length yc) ⟨gy, 2, none⟩ (fun w1 h => h.1.2) ?_ (fun K hK => ?_); (focus (go_simp; done)); (focus (intro w' hc'; go_simp; (try rfl))); go_simp; refine hK _ ?_; clear hK K) | (refine CanT.cellG rfl ?_ (.int .i64 m4) (.int .i64 m4) ⟨gx, 1, none⟩ (fun w1 h => h.2.1) ?_ (fun K hK => ?_); (focus (go_simp; done)); (focus (intro w' hc'; go_simp; (try rfl))); go_simp; refine hK _ ?_; clear hK K) | (refine CanT.cellG rfl ?_ (.slice XA b4.length xc) (.slice XA b4.length xc) ⟨gx, 2, none⟩ (fun w1 h => h.2.2) ?_ (fun K hK => ?_); (focus (go_simp; done)); (focus (intro w' hc'; go_simp; (try rfl))); go_simp; refine hK _ ?_; clear hK K))
    refine CanT.imp rfl (fun K hK => ?_)
    go_simp
    refine Calls.mono Hsm.out ?_
    rintro ee ww ⟨rfl, hb⟩
    have HDf := Lib.hid (HDe.out.below hb)
    have HFf := Lib.hid (HFe.out.below hb)
    have HWf := Lib.hid (HWe.out.trans (hb.mono HWe.out.size))
    have Hbe := Lib.hid hb
    have hfc := HFC.out _ hb
    clear hb
    (try go_simp)
    refine hK.out _ _ hfc ?_
    clear hK K
    repeat (first | (refine CanT.skip rfl ?_ (fun K hK => ?_); (focus (go_simp; done)); go_simp; refine hK _ ?_; clear hK K) | (refine CanT.pur rfl ?_ ?_; (focus (go_simp; done)); refine ⟨?_, ?_, ?_⟩; rotate_left; (focus (intro w'; go_simp; rfl)); (focus (intro K hK; go_simp; refine hK _ ?_; clear hK K))) | (refine CanT.cellG rfl ?_ (.int .i64 m5) (.int .i64 m5) ⟨gy, 1, none⟩ (fun w1 h => h.1.1) ?_ (fun K hK => ?_); (focus (go_simp; done)); (focus (intro w' hc'; go_simp; (try rfl))); go_simp; refine hK _ ?_; clear hK K) | (refine CanT.cellG rfl ?_ (.slice YA b5.length yc) (.slice YA b5.length yc) ⟨gy, 2, none⟩ (fun w1 h => h.1.2) ?_ (fun K hK => ?_); (focus (go_simp; done)); (focus (intro w' hc'; go_simp; (try rfl))); go_simp; refine hK _ ?_; clear hK K) | (refine CanT.cellG rfl ?_ (.int .i64 m4) (.int .i64 m4) ⟨gx, 1, none⟩ (fun w1 h => h.2.1) ?_ (fun K hK => ?_); (focus (go_simp; done)); (focus (intro w' hc'; go_simp; (try rfl))); go_simp; refine hK _ ?_; clear hK K) | (refine CanT.cellG rfl ?_ (.slice XA b4.length xc) (.slice XA b4.length xc) ⟨gx, 2, none⟩ (fun w1 h => h.2.2) ?_ (fun K hK => ?_); (focus (go_simp; done)); (focus (intro w' hc'; go_simp; (try rfl))); go_simp; refine hK _ ?_; clear hK K))
    refine CanT.imp rfl (fun K hK => ?_)
    go_simp
    refine Calls.mono (made_calls HFf.out) ?_
    rintro ee ww ⟨rfl, rfl⟩
    (try go_simp)
    refine hK.out _ _ hfc ?_
    clear hK K
    repeat (first | (refine CanT.skip rfl ?_ (fun K hK => ?_); (focus (go_simp; done)); go_simp; refine hK _ ?_; clear hK K) | (refine CanT.pur rfl ?_ ?_; (focus (go_simp; done)); refine ⟨?_, ?_, ?_⟩; rotate_left; (focus (intro w'; go_simp; rfl)); (focus (intro K hK; go_simp; refine hK _ ?_; clear hK K))) | (refine CanT.cellG rfl ?_ (.int .i64 m5) (.int .i64 m5) ⟨gy, 1, none⟩ (fun w1 h => h.1.1) ?_ (fun K hK => ?_); (focus (go_simp; done)); (focus (intro w' hc'; go_simp; (try rfl))); go_simp; refine hK _ ?_; clear hK K) | (refine CanT.cellG rfl ?_ (.slice YA b5.length yc) (.slice YA b5.length yc) ⟨gy, 2, none⟩ (fun w1 h => h.1.2) ?_ (fun K hK => ?_); (focus (go_simp; done)); (focus (intro w' hc'; go_simp; (try rfl))); go_simp; refine hK _ ?_; clear hK K) | (refine CanT.cellG rfl ?_ (.int .i64 m4) (.int .i64 m4) ⟨gx, 1, none⟩ (fun w1 h => h.2.1) ?_ (fun K hK => ?_); (focus (go_simp; done)); (focus (intro w' hc'; go_simp; (try rfl))); go_simp; refine hK _ ?_; clear hK K) | (refine CanT.cellG rfl ?_ (.slice XA b4.length xc) (.slice XA b4.length xc) ⟨gx, 2, none⟩ (fun w1 h => h.2.2) ?_ (fun K hK => ?_); (focus (go_simp; done)); (focus (intro w' hc'; go_simp; (try rfl))); go_simp; refine hK _ ?_; clear hK K))
    refine CanT.imp rfl (fun K hK => ?_)
    go_simp
    refine Calls.mono (rest_calls HFf.out) ?_
    rintro ee ww ⟨rfl, rfl⟩
    (try go_simp)
    refine hK.out _ _ hfc ?_
    clear hK K
    repeat (first | (refine CanT.skip rfl ?_ (fun K hK => ?_); (focus (go_simp; done)); go_simp; refine hK _ ?_; clear hK K) | (refine CanT.pur rfl ?_ ?_; (focus (go_simp; done)); refine ⟨?_, ?_, ?_⟩; rotate_left; (focus (intro w'; go_simp; rfl)); (focus (intro K hK; go_simp; refine hK _ ?_; clear hK K))) | (refine CanT.cellG rfl ?_ (.int .i64 m5) (.int .i64 m5) ⟨gy, 1, none⟩ (fun w1 h => h.1.1) ?_ (fun K hK => ?_); (focus (go_simp; done)); (focus (intro w' hc'; go_simp; (try rfl))); go_simp; refine hK _ ?_; clear hK K) | (refine CanT.cellG rfl ?_ (.slice YA b5.length yc) (.slice YA b5.length yc) ⟨gy, 2, none⟩ (fun w1 h => h.1.2) ?_ (fun K hK => ?_); (focus (go_simp; done)); (focus (intro w' hc'; go_simp; (try rfl))); go_simp; refine hK _ ?_; clear hK K) | (refine CanT.cellG rfl ?_ (.int .i64 m4) (.int .i64 m4) ⟨gx, 1, none⟩ (fun w1 h => h.2.1) ?_ (fun K hK => ?_); (focus (go_simp; done)); (focus (intro w' hc'; go_simp; (try rfl))); go_simp; refine hK _ ?_; clear hK K) | (refine CanT.cellG rfl ?_ (.slice XA b4.length xc) (.slice XA b4.length xc) ⟨gx, 2, none⟩ (fun w1 h => h.2.2) ?_ (fun K hK => ?_); (focus (go_simp; done)); (focus (intro w' hc'; go_simp; (try rfl))); go_simp; refine hK _ ?_; clear hK K))
    refine CanT.imp rfl (fun K hK => ?_)
    go_simp
    refine Calls.mono (made_calls HDf.out) ?_
    rintro ee ww ⟨rfl, rfl⟩
    (try go_simp)
    refine hK.out _ _ hfc ?_
    clear hK K
    repeat (first | (refine CanT.skip rfl ?_ (fun K hK => ?_); (focus (go_simp; done)); go_simp; refine hK _ ?_; clear hK K) | (refine CanT.pur rfl ?_ ?_; (focus (go_simp; done)); refine ⟨?_, ?_, ?_⟩; rotate_left; (focus (intro w'; go_simp; rfl)); (focus (intro K hK; go_simp; refine hK _ ?_; clear hK K))) | (refine CanT.cellG rfl ?_ (.int .i64 m5) (.int .i64 m5) ⟨gy, 1, none⟩ (fun w1 h => h.1.1) ?_ (fun K hK => ?_); (focus (go_simp; done)); (focus (intro w' hc'; go_simp; (try rfl))); go_simp; refine hK _ ?_; clear hK K) | (refine CanT.cellG rfl ?_ (.slice YA b5.length yc) (.slice YA b5.length yc) ⟨gy, 2, none⟩ (fun w1 h => h.1.2) ?_ (fun K hK => ?_); (focus (go_simp; done)); (focus (intro w' hc'; go_simp; (try rfl))); go_simp; refine hK _ ?_; clear hK K) | (refine CanT.cellG rfl ?_ (.int .i64 m4) (.int .i64 m4) ⟨gx, 1, none⟩ (fun w1 h => h.2.1) ?_ (fun K hK => ?_); (focus (go_simp; done)); (focus (intro w' hc'; go_simp; (try rfl))); go_simp; refine hK _ ?_; clear hK K) | (refine CanT.cellG rfl ?_ (.slice XA b4.length xc) (.slice XA b4.length xc) ⟨gx, 2, none⟩ (fun w1 h => h.2.2) ?_ (fun K hK => ?_); (focus (go_simp; done)); (focus (intro w' hc'; go_simp; (try rfl))); go_simp; refine hK _ ?_; clear hK K))
    refine CanT.imp rfl (fun K hK => ?_)
    go_simp
    refine Calls.mono (rest_calls HDf.out) ?_
    rintro ee ww ⟨rfl, rfl⟩
    (try go_simp)
    refine hK.out _ _ hfc ?_
    clear hK K
    repeat (first | (refine CanT.skip rfl ?_ (fun K hK => ?_); (focus (go_simp; done)); go_simp; refine hK _ ?_; clear hK K) | (refine CanT.pur rfl ?_ ?_; (focus (go_simp; done)); refine ⟨?_, ?_, ?_⟩; rotate_left; (focus (intro w'; go_simp; rfl)); (focus (intro K hK; go_simp; refine hK _ ?_; clear hK K))) | (refine CanT.cellG rfl ?_ (.int .i64 m5) (.int .i64 m5) ⟨gy, 1, none⟩ (fun w1 h => h.1.1) ?_ (fun K hK => ?_); (focus (go_simp; done)); (focus (intro w' hc'; go_simp; (try rfl))); go_simp; refine hK _ ?_; clear hK K) | (refine CanT.cellG rfl ?_ (.slice YA b5.length yc) (.slice YA b5.length yc) ⟨gy, 2, none⟩ (fun w1 h => h.1.2) ?_ (fun K hK => ?_); (focus (go_simp; done)); (focus (intro w' hc'; go_simp; (try rfl))); go_simp; refine hK _ ?_; clear hK K) | (refine CanT.cellG rfl ?_ (.int .i64 m4) (.int .i64 m4) ⟨gx, 1, none⟩ (fun w1 h => h.2.1) ?_ (fun K hK => ?_); (focus (go_simp; done)); (focus (intro w' hc'; go_simp; (try rfl))); go_simp; refine hK _ ?_; clear hK K) | (refine CanT.cellG rfl ?_ (.slice XA b4.length xc) (.slice XA b4.length xc) ⟨gx, 2, none⟩ (fun w1 h => h.2.2) ?_ (fun K hK => ?_); (focus (go_simp; done)); (focus (intro w' hc'; go_simp; (try rfl))); go_simp; refine hK _ ?_; clear hK K))
    refine CanT.imp rfl (fun K hK => ?_)
    go_simp
    refine Calls.mono (made_nil _) ?_
    rintro ee ww ⟨rfl, rfl⟩
    (try go_simp)
    refine hK.out _ _ hfc ?_
    clear hK K
    repeat (first | (refine CanT.skip rfl ?_ (fun K hK => ?_); (focus (go_simp; done)); go_simp; refine hK _ ?_; clear hK K) | (refine CanT.pur rfl ?_ ?_; (focus (go_simp; done)); refine ⟨?_, ?_, ?_⟩; rotate_left; (focus (intro w'; go_simp; rfl)); (focus (intro K hK; go_simp; refine hK _ ?_; clear hK K))) | (refine CanT.cellG rfl ?_ (.int .i64 m5) (.int .i64 m5) ⟨gy, 1, none⟩ (fun w1 h => h.1.1) ?_ (fun K hK => ?_); (focus (go_simp; done)); (focus (intro w' hc'; go_simp; (try rfl))); go_simp; refine hK _ ?_; clear hK K) | (refine CanT.cellG rfl ?_ (.slice YA b5.length yc) (.slice YA b5.length yc) ⟨gy, 2, none⟩ (fun w1 h => h.1.2) ?_ (fun K hK => ?_); (focus (go_simp; done)); (focus (intro w' hc'; go_simp; (try rfl))); go_simp; refine hK _ ?_; clear hK K) | (refine CanT.cellG rfl ?_ (.int .i64 m4) (.int .i64 m4) ⟨gx, 1, none⟩ (fun w1 h => h.2.1) ?_ (fun K hK => ?_); (focus (go_simp; done)); (focus (intro w' hc'; go_simp; (try rfl))); go_simp; refine hK _ ?_; clear hK K) | (refine CanT.cellG rfl ?_ (.slice XA b4.length xc) (.slice XA b4.length xc) ⟨gx, 2, none⟩ (fun w1 h => h.2.2) ?_ (fun K hK => ?_); (focus (go_simp; done)); (focus (intro w' hc'; go_simp; (try rfl))); go_simp; refine hK _ ?_; clear hK K))
    refine CanT.imp rfl (fun K hK => ?_)
    go_simp
    refine Calls.mono (rest_nil _) ?_
    rintro ee ww ⟨rfl, rfl⟩
    (try go_simp)
    refine hK.out _ _ hfc ?_
    clear hK K
    repeat (first | (refine CanT.skip rfl ?_ (fun K hK => ?_); (focus (go_simp; done)); go_simp; refine hK _ ?_; clear hK K) | (refine CanT.pur rfl ?_ ?_; (focus (go_simp; done)); refine ⟨?_, ?_, ?_⟩; rotate_left; (focus (intro w'; go_simp; rfl)); (focus (intro K hK; go_simp; refine hK _ ?_; clear hK K))) | (refine CanT.cellG rfl ?_ (.int .i64 m5) (.int .i64 m5) ⟨gy, 1, none⟩ (fun w1 h => h.1.1) ?_ (fun K hK => ?_); (focus (go_simp; done)); (focus (intro w' hc'; go_simp; (try rfl))); go_simp; refine hK _ ?_; clear hK K) | (refine CanT.cellG rfl ?_ (.slice YA b5.length yc) (.slice YA b5.length yc) ⟨gy, 2, none⟩ (fun w1 h => h.1.2) ?_ (fun K hK => ?_); (focus (go_simp; done)); (focus (intro w' hc'; go_simp; (try rfl))); go_simp; refine hK _ ?_; clear hK K) | (refine CanT.cellG rfl ?_ (.int .i64 m4) (.int .i64 m4) ⟨gx, 1, none⟩ (fun w1 h => h.2.1) ?_ (fun K hK => ?_); (focus (go_simp; done)); (focus (intro w' hc'; go_simp; (try rfl))); go_simp; refine hK _ ?_; clear hK K) | (refine CanT.cellG rfl ?_ (.slice XA b4.length xc) (.slice XA b4.length xc) ⟨gx, 2, none⟩ (fun w1 h => h.2.2) ?_ (fun K hK => ?_); (focus (go_simp; done)); (focus (intro w' hc'; go_simp; (try rfl))); go_simp; refine hK _ ?_; clear hK K))
    refine CanT.imp rfl (fun K hK => ?_)
    go_simp
    refine Calls.mono (fork_nil _) ?_
    rintro ee ww ⟨rfl, rfl⟩
    (try go_simp)
    refine hK.out _ _ hfc ?_
    clear hK K
    repeat (first | (refine CanT.skip rfl ?_ (fun K hK => ?_); (focus (go_simp; done)); go_simp; refine hK _ ?_; clear hK K) | (refine CanT.pur rfl ?_ ?_; (focus (go_simp; done)); refine ⟨?_, ?_, ?_⟩; rotate_left; (focus (intro w'; go_simp; rfl)); (focus (intro K hK; go_simp; refine hK _ ?_; clear hK K))) | (refine CanT.cellG rfl ?_ (.int .i64 m5) (.int .i64 m5) ⟨gy, 1, none⟩ (fun w1 h => h.1.1) ?_ (fun K hK => ?_); (focus (go_simp; done)); (focus (intro w' hc'; go_simp; (try rfl))); go_simp; refine hK _ ?_; clear hK K) | (refine CanT.cellG rfl ?_ (.slice YA b5.length yc) (.slice YA b5.length yc) ⟨gy, 2, none⟩ (fun w1 h => h.1.2) ?_ (fun K hK => ?_); (focus (go_simp; done)); (focus (intro w' hc'; go_simp; (try rfl))); go_simp; refine hK _ ?_; clear hK K) | (refine CanT.cellG rfl ?_ (.int .i64 m4) (.int .i64 m4) ⟨gx, 1, none⟩ (fun w1 h => h.2.1) ?_ (fun K hK => ?_); (focus (go_simp; done)); (focus (intro w' hc'; go_simp; (try rfl))); go_simp; refine hK _ ?_; clear hK K) | (refine CanT.cellG rfl ?_ (.slice XA b4.length xc) (.slice XA b4.length xc) ⟨gx, 2, none⟩ (fun w1 h => h.2.2) ?_ (fun K hK => ?_); (focus (go_simp; done)); (focus (intro w' hc'; go_simp; (try rfl))); go_simp; refine hK _ ?_; clear hK K))
    refine CanT.imp rfl (fun K hK => ?_)
    go_simp
    refine Calls.mono (Haw.out _) ?_
    rintro ee ww ⟨rfl, hb⟩
    (try go_simp)
    refine hK.out _ _ (HFC.out _ (Hbe.out.trans (hb.mono Hbe.out.size))) ?_
    clear hK K
    repeat (first | (refine CanT.skip rfl ?_ (fun K hK => ?_); (focus (go_simp; done)); go_simp; refine hK _ ?_; clear hK K) | (refine CanT.pur rfl ?_ ?_; (focus (go_simp; done)); refine ⟨?_, ?_, ?_⟩; rotate_left; (focus (intro w'; go_simp; rfl)); (focus (intro K hK; go_simp; refine hK _ ?_; clear hK K))) | (refine CanT.cellG rfl ?_ (.int .i64 m5) (.int .i64 m5) ⟨gy, 1, none⟩ (fun w1 h => h.1.1) ?_ (fun K hK => ?_); (focus (go_simp; done)); (focus (intro w' hc'; go_simp; (try rfl))); go_simp; refine hK _ ?_; clear hK K) | (refine CanT.cellG rfl ?_ (.slice YA b5.length yc) (.slice YA b5.length yc) ⟨gy, 2, none⟩ (fun w1 h => h.1.2) ?_ (fun K hK => ?_); (focus (go_simp; done)); (focus (intro w' hc'; go_simp; (try rfl))); go_simp; refine hK _ ?_; clear hK K) | (refine CanT.cellG rfl ?_ (.int .i64 m4) (.int .i64 m4) ⟨gx, 1, none⟩ (fun w1 h => h.2.1) ?_ (fun K hK => ?_); (focus (go_simp; done)); (focus (intro w' hc'; go_simp; (try rfl))); go_simp; refine hK _ ?_; clear hK K) | (refine CanT.cellG rfl ?_ (.slice XA b4.length xc) (.slice XA b4.length xc) ⟨gx, 2, none⟩ (fun w1 h => h.2.2) ?_ (fun K hK => ?_); (focus (go_simp; done)); (focus (intro w' hc'; go_simp; (try rfl))); go_simp; refine hK _ ?_; clear hK K))
    refine CanT.done ?_
    go_wp2_with fail
    go_ret
    exact ⟨rfl, HWf.out.trans (hb.mono HWf.out.size)⟩
end Dl
end Go.Proofs.Ytiofkhjpknfkgaa

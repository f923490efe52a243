/- A block of 64 bytes is worked into the state, of the program. -/
import Derived.Test.YtiofkhjpknfkgaaDoorP01
import Derived.Test.YtiofkhjpknfkgaaDoorP02
import Derived.Test.YtiofkhjpknfkgaaDoorP03
import Derived.Test.YtiofkhjpknfkgaaDoorP04
import Derived.Deep.RegionWith
namespace Go.Proofs.YtiofkhjpknfkgaaDoor
namespace Sm
open Go.RowKit Ba
set_option linter.unusedVariables false
attribute [local go_sem] U_add U_add' U_xor U_and U_or U_of_u8 U_shr3 U_shr10 U_shl8 U_shl16 U_shl24 U_not U_not'
/-- the round words lie in the first variable -/
def Tab (w : World) : Prop := 0 < w.heap.size ∧ w.rangeAt 0 0 (wvs rounds)
theorem Tab.below {w w' : World} (h : Tab w) (hb : Below w.heap.size w w') : Tab w' := ⟨Nat.lt_of_lt_of_le h.1 hb.size, fun j v hv => (hb.cell (p := ⟨0, 0 + j, none⟩) h.1).trans (h.2 j v hv)⟩
theorem Tab.grown {w w' : World} {g : Nat} (h : Tab w) (hb : w.grownBy w' (some g)) (hg : 0 < g) : Tab w' := ⟨Nat.lt_of_lt_of_le h.1 hb.size, fun j v hv => (World.cell?_of_block (hb.block 0 h.1 (by simp; omega))).trans (h.2 j v hv)⟩

set_option maxRecDepth 100000 in
set_option maxHeartbeats 400000 in
theorem work_calls (s : List UInt32) (hs : s.length = 8) (g : Nat) (t : TypeId) (post : List Value) (b : List UInt8) (hb : b.length = 64) (A : Option Addr) (c : Nat) (hc : 64 ≤ c) (hcm : c ≤ 9223372036854775807) (w : World) (hr : ReadB w w.heap.size A b)
    (hblk : Blk w g t (wvs s ++ post).toArray) (hg0 : 0 < g) (htab : Tab w) : Calls Tryd.prog 70 #[.pointer (some ⟨g, 0, none⟩), .slice A 64 c] w
    fun e w' => e = .returned (.tuple #[]) ∧ Blk w' g t (wvs (block s b) ++ post).toArray ∧ w.grownBy w' (some g) := by
  have hlen : (sched b).length = 64 := by rw [← spart64]; exact spart_len b 64 (by omega) (by omega)
  have Hlen := Lib.hid hlen
  have Hblk := Lib.hid hblk
  have Htab := Lib.hid htab
  have Hs := Lib.hid hs
  clear hblk htab hlen hs
  go_enter Tryd.func70, Tryd.ntmps70
  go_wp2_with fail
  refine (spread_calls b hb A c hc hcm w hr).mono ?_
  rintro e w1 ⟨rfl, hb1⟩
  have hb1' := Lib.hid hb1
  have hg1 := (Hblk.out.below hb1 Hblk.out.lt)
  have Hblk1 := Lib.hid hg1
  have Htab1 := Lib.hid (Htab.out.below hb1)
  clear hb1 hg1
  have hglt := Hblk1.out.lt
  have Hglt := Lib.hid hglt
  clear hglt
  go_wp2_with (first
    | (refine wpList_storeW rfl 108 (.tmp 4) (.tmp 14) rfl w1.heap.size 108 (List.replicate 64 0) (sched b) rfl rfl (BlkW.new_ _ _ _ _ _ (by rfl) (by rfl)) (by rw [Hlen.out]; rfl) (by rw [Hlen.out]; kernel_rfl) ?_; intro w2 hW2 hg2; have Hblk2 := Lib.hid (Blk.grown (Blk.alloc Hblk1.out _) hg2 (by simp; have := Hglt.out; omega)); have Htab2 := Lib.hid (Tab.grown (Htab1.out.below ((Below.refl _ _).alloc (Nat.le_refl _) _)) hg2 (by have := Htab1.out.1; omega)); have HW2 := Lib.hid hW2; have Hb2 := Lib.hid (only_after ((Below.refl _ _).alloc (Nat.le_refl _) _) hg2 (Nat.le_refl _)); clear hW2 hg2)
    | (refine wpList_load_blk rfl 120 (.tmp 16) rfl g 0 t [] (wvs s) post rfl Hblk2.out rfl _ Tryd.underlying120 rfl (by rw [wvs_len, Hs.out]; kernel_rfl) ?_)
    | (refine wpList_storeW rfl 120 (.tmp 5) (.tmp 17) rfl w2.heap.size 120 (List.replicate 8 0) s rfl rfl (BlkW.new_ _ _ _ _ _ (by rfl) (by rfl)) (by rw [Hs.out]; rfl) (by rw [Hs.out]; kernel_rfl) ?_; intro w3 hV3 hg3; have Hblk3 := Lib.hid (Blk.grown (Blk.alloc Hblk2.out _) hg3 (by simp; have := Hblk2.out.lt; omega)); have HW3 := Lib.hid (BlkW.grown (BlkW.alloc HW2.out _) hg3 (by simp; have := HW2.out.lt; omega)); have Htab3 := Lib.hid (Tab.grown (Htab2.out.below ((Below.refl _ _).alloc (Nat.le_refl _) _)) hg3 (by have := Htab2.out.1; omega)); have HV3 := Lib.hid hV3; have Hb3 := Lib.hid (only_after (Hb2.out.alloc Hb2.out.size _) hg3 Hb2.out.size); clear hV3 hg3)
    | (refine wpList_load_mid rfl 108 (.global 0) rfl 0 0 rfl (wvs rounds) _ Htab3.out.2 Tryd.underlying108 rfl (by kernel_rfl) ?_))
  have hg12 : w1.heap.size < w2.heap.size := HW2.out.lt
  have Hg12 := Lib.hid hg12
  clear Hblk2 Htab2 HW2 Hb2 hg12 Hblk1 Htab1
  generalize hg1e : w1.heap.size = g1 at *
  generalize hg2e : w2.heap.size = g2 at *
  clear hg2e
  have Hidx : Hid (∀ k : Nat, k < 64 → ∀ w', (Instr.index 108 (.agg (wvs rounds).toArray) (.int .i64 (k : Int))).run Tryd.prog w' = .ok (.int .u32 (U (Sm.g rounds k))) w') := Lib.hid (fun k hk w' => run_index_words 108 56 64 rounds k Tryd.underlying108 Tryd.underlying56 (by kernel_rfl) hk rfl w')
  obtain ⟨rt, hrt⟩ : ∃ rt, rt = Sm.g rounds := ⟨_, rfl⟩
  rw [← hrt] at Hidx
  have Hrt := Lib.hid hrt
  clear hrt
  generalize (wvs rounds).toArray = RA at Hidx ⊢
  obtain ⟨ws, hws⟩ : ∃ ws, ws = sched b := ⟨_, rfl⟩
  have Hws := Lib.hid hws
  rw [← hws] at Hlen HW3 ⊢
  clear hws
  go_loopw [6, 7, 8, 9, 10, 11, 19] (fun _ _ _ _ _ _ i wr => ∃ k : Nat, k ≤ 64 ∧ i = .int .i64 k ∧ BlkW wr g2 120 (runK s ws k) ∧ BlkW wr g1 108 ws ∧ Blk wr g t (wvs s ++ post).toArray ∧ Below g1 w1 wr) (fun _ _ _ _ _ _ i _ => 64 - (intOf i).toNat)
  case atStart => exact ⟨0, Nat.zero_le _, rfl, HV3.out, HW3.out, Hblk3.out, Hb3.out⟩
  case round =>
    obtain ⟨k, hk, rfl, hV, hW, hB, hbel⟩ := hrel
    obtain ⟨v, hv⟩ : ∃ v, v = runK s ws k := ⟨_, rfl⟩
    have hvl : (runK s ws k).length = 8 := runK_len s ws k Hs.out
    rw [← hv] at hV hvl
    have Hv := Lib.hid hv
    clear hv
    by_cases hkl : k < 64
    · have hidx := Hidx.out k hkl
      have hwk := hW.cell k (by rw [Hlen.out]; exact hkl)
      have hv0 := hV.cell 0 (by omega)
      have hv1 := hV.cell 1 (by omega)
      have hv2 := hV.cell 2 (by omega)
      have hv3 := hV.cell 3 (by omega)
      have hv4 := hV.cell 4 (by omega)
      have hv5 := hV.cell 5 (by omega)
      have hv6 := hV.cell 6 (by omega)
      have hv7 := hV.cell 7 (by omega)
      have HV := Lib.hid hV
      have HW := Lib.hid hW
      have HB := Lib.hid hB
      have Hbel := Lib.hid hbel
      have Hvl := Lib.hid hvl
      clear hV hW hB hbel hvl
      go_wp2_with fail
      go_quiet (fail)
      go_wp2_with fail
      go_quiet (fail)
      go_wp2_with (first
        | (go_at_call 84; refine (rot_any _ _ (by decide) _).mono ?_; rintro e w5 ⟨rfl, rfl⟩)
        | (refine wpList_storeW rfl 120 (.tmp 5) (.tmp 100) rfl g2 120 v (round v (rt k) (Sm.g ws k)) rfl rfl HV.out (by rw [Hvl.out]; rfl) (by kernel_rfl) ?_; intro w5 hV5 hg5))
      go_roundw
      case rel =>
        have hg5 := undrewN hg5
        refine ⟨k + 1, by omega, by go_num, ?_, HW.out.grown hg5 (by have := Hg12.out; simp; omega), Blk.grown HB.out hg5 (by have := Hg12.out; have := Hglt.out; simp; omega), Hbel.out.trans (below_of_only hg5 (by have := Hg12.out; omega) (by rw [← hg1e]; exact Hbel.out.size))⟩
        rw [runK_succ s ws k Hlen.out hkl, ← Hv.out, ← Hrt.out]
        exact hV5
      case measure => simp [intOf]; omega
    · have hk64 : k = 64 := by omega
      have hv := Hv.out
      rw [hk64, runK_all s ws Hlen.out, Hws.out] at hv
      clear hW
      have HV := Lib.hid hV
      have HB := Lib.hid hB
      have Hbel := Lib.hid hbel
      have Hvl := Lib.hid hvl
      have Hv2 := Lib.hid hv
      clear hV hB hbel hvl hv hk hk64 Hv
      go_wp2
      go_loopw [12, 102] (fun _ i wr => ∃ k : Nat, k ≤ 8 ∧ i = .int .i64 k ∧ BlkW wr g2 120 v ∧ Blk wr g t (wvs (upd s v k) ++ post).toArray ∧ w1.grownBy wr (some g)) (fun _ i _ => 8 - (intOf i).toNat)
      case atStart => exact ⟨0, Nat.zero_le _, rfl, HV.out, by rw [upd_0 s v Hs.out]; exact HB.out, only_of_below (by rw [hg1e]; exact Hbel.out) _⟩
      case round =>
        obtain ⟨i, hi, rfl, hV, hB, hbel⟩ := hrel
        by_cases hil : i < 8
        · have hvi := hV.cell i (by rw [Hvl.out]; exact hil)
          have hsi := cellP hB i (by rw [upd_len]; exact hil)
          rw [upd_at s v i i hil, if_neg (by omega)] at hsi
          have hfi := Blk.frozen hB i
          have HV := Lib.hid hV
          have HB := Lib.hid hB
          have Hbel := Lib.hid hbel
          clear hV hB hbel
          go_wp2
          go_region
          go_wp2
          go_roundw
          case rel =>
            refine ⟨i + 1, by omega, by go_num, (HV.out.far (by have := Hg12.out; have := Hglt.out; simp; omega) _).drew, ?_, grown_drew (only_trans Hbel.out (only_set _ _ _ _))⟩
            have := setP HB.out i (by rw [upd_len]; exact hil) (Sm.g s i + Sm.g v i)
            rw [upd_set s v i hil] at this
            exact this
          case measure => simp [intOf]; omega
        · have hi8 : i = 8 := by omega
          rw [hi8, Hv2.out, upd_8] at hB
          have HB := Lib.hid hB
          have Hbel := Lib.hid hbel
          clear hB hbel hV hi8 hi
          go_wp2
          refine bodyPost_end (results_none rfl _ _ _) rfl ⟨rfl, HB.out, ?_⟩
          exact only_trans (only_of_below hb1'.out _) Hbel.out
end Sm
end Go.Proofs.YtiofkhjpknfkgaaDoor
/- The hasher, of the program: a new one, what is written, the sum, the length, a fork. -/
namespace Go.Proofs.YtiofkhjpknfkgaaDoor
namespace Sm
open Go.RowKit Ba
set_option linter.unusedVariables false

/-- bytes that lie in a block of bytes -/
def ReadT (w : World) (E : TypeId) (A : Option Addr) (l : List UInt8) : Prop :=
  0 < l.length → ∃ b o cs, A = some ⟨b, o, none⟩ ∧ Blk w b E cs ∧ ∀ k, k < l.length → w.cell? ⟨b, o + k, none⟩ = some (.int .u8 ((l.getD k 0).toNat : Int))
section
variable {w w' : World} {E : TypeId} {A : Option Addr} {l : List UInt8}
theorem ReadT.readB (h : ReadT w E A l) : ReadB w w.heap.size A l := fun hn => by
  obtain ⟨b, o, cs, e, hb, hc⟩ := h hn
  exact ⟨b, o, e, hb.lt, hc⟩
theorem ReadT.of_own {base c : Nat} (h : OwnB w base E (.slice A l.length c) l) : ReadT w E A l := fun hn => by
  rcases h.2 with ⟨hv, h0⟩ | ⟨g, cap, cur, hv, _, hh, _⟩
  · omega
  · injection hv with hA _ _
    subst hA
    exact ⟨g, 0, cur, rfl, hh, fun k hk => by rw [Nat.zero_add]; have := h.2; exact OwnB.cell (c := c) (by simpa using h) hk⟩
theorem ReadT.below (h : ReadT w E A l) (hb : Below w.heap.size w w') : ReadT w' E A l := fun hn => by
  obtain ⟨b, o, cs, e, hB, hc⟩ := h hn
  exact ⟨b, o, cs, e, hB.below hb hB.lt, fun k hk => (hb.cell (p := ⟨b, o + k, none⟩) hB.lt).trans (hc k hk)⟩
theorem ReadT.grown {g : Nat} {t : TypeId} {cs : Array Value} (h : ReadT w E A l) (hg : w.grownBy w' (some g)) (hB : Blk w g t cs) (hne : E ≠ t) : ReadT w' E A l := fun hn => by
  obtain ⟨b, o, cs', e, hb, hc⟩ := h hn
  have hbg : b ≠ g := hb.ne_ hB hne
  exact ⟨b, o, cs', e, hb.grown hg (by simpa using hbg), fun k hk => (World.cell?_of_block (hg.block b hb.lt (by simpa using hbg))).trans (hc k hk)⟩
theorem ReadT.drop {b o : Nat} (h : ReadT w E (some ⟨b, o, none⟩) l) (k : Nat) : ReadT w E (some ⟨b, o + k, none⟩) (l.drop k) := fun hn => by
  have hk : k < l.length := by simp at hn; omega
  obtain ⟨b', o', cs, e, hb, hcl⟩ := h (by omega)
  injection e with e
  injection e with e1 e2
  subst e1 e2
  refine ⟨b, o + k, cs, rfl, hb, fun j hj => ?_⟩
  have hj' : k + j < l.length := by simp at hj; omega
  rw [Nat.add_assoc, hcl (k + j) hj']
  simp [List.getD]
theorem ReadT.nil : ReadT w E A [] := fun h => absurd h (by simp)
end

/-- a hasher in block g: its state, what is left over, how many bytes were written -/
def IsG (w : World) (g : Nat) (s : List UInt32) (r : List UInt8) (n : Nat) : Prop :=
  ∃ A c, Blk w g 123 (wvs s ++ [Value.slice A r.length c, Value.int .i64 (n : Int)]).toArray ∧ s.length = 8 ∧ r.length ≤ c ∧ c ≤ 9223372036854775807 ∧ ReadT w 5 A r
/-- .. behind all these bytes -/
def IsH (w : World) (g : Nat) (l : List UInt8) : Prop := IsG w g (st l) (rs l) l.length
theorem IsG.lt {w : World} {g : Nat} {s : List UInt32} {r : List UInt8} {n : Nat} (h : IsG w g s r n) : g < w.heap.size := by
  obtain ⟨A, c, h, _⟩ := h
  exact h.lt
theorem IsG.below {w w' : World} {g : Nat} {s : List UInt32} {r : List UInt8} {n : Nat} (h : IsG w g s r n) (hb : Below w.heap.size w w') : IsG w' g s r n := by
  obtain ⟨A, c, h1, h2, h3, h4, h5⟩ := h
  exact ⟨A, c, h1.below hb h1.lt, h2, h3, h4, h5.below hb⟩
theorem IsG.other {w w' : World} {g k : Nat} {t : TypeId} {cs : Array Value} {s : List UInt32} {r : List UInt8} {n : Nat} (h : IsG w g s r n) (hg : w.grownBy w' (some k)) (hk : g ≠ k) (hB : Blk w k t cs) (hne : 5 ≠ t) : IsG w' g s r n := by
  obtain ⟨A, c, h1, h2, h3, h4, h5⟩ := h
  exact ⟨A, c, h1.grown hg (by simpa using hk), h2, h3, h4, h5.grown hg hB hne⟩
theorem set8 {w : World} {g : Nat} {t : TypeId} {s : List UInt32} {x y : Value} (h : Blk w g t (wvs s ++ [x, y]).toArray) (hs : s.length = 8) (v : Value) : Blk (w.setCell ⟨g, 8, none⟩ v) g t (wvs s ++ [v, y]).toArray := by
  have := Blk.set_ h 8 v
  rw [toArray_set, List.set_append_right _ _ (by rw [wvs_len]; omega), wvs_len, hs] at this
  exact this
theorem set9 {w : World} {g : Nat} {t : TypeId} {s : List UInt32} {x y : Value} (h : Blk w g t (wvs s ++ [x, y]).toArray) (hs : s.length = 8) (v : Value) : Blk (w.setCell ⟨g, 9, none⟩ v) g t (wvs s ++ [x, v]).toArray := by
  have := Blk.set_ h 9 v
  rw [toArray_set, List.set_append_right _ _ (by rw [wvs_len]; omega), wvs_len, hs] at this
  exact this
theorem cell8 {w : World} {g : Nat} {t : TypeId} {s : List UInt32} {x y : Value} (h : Blk w g t (wvs s ++ [x, y]).toArray) (hs : s.length = 8) : w.cell? ⟨g, 8, none⟩ = some x := by
  rw [Blk.cell h, List.getElem?_toArray, List.getElem?_append_right (by rw [wvs_len]; omega), wvs_len, hs]
  rfl
theorem cell9 {w : World} {g : Nat} {t : TypeId} {s : List UInt32} {x y : Value} (h : Blk w g t (wvs s ++ [x, y]).toArray) (hs : s.length = 8) : w.cell? ⟨g, 9, none⟩ = some y := by
  rw [Blk.cell h, List.getElem?_toArray, List.getElem?_append_right (by rw [wvs_len]; omega), wvs_len, hs]
  rfl

theorem info5 : (Tryd.prog.info? 5).map (fun i => (i.zero, i.size, i.bytes)) = some (some (.int .u8 0), 1, 1) := by kernel_rfl

set_option maxRecDepth 100000 in
set_option maxHeartbeats 400000 in
theorem clone_calls (l : List UInt8) (A : Option Addr) (c : Nat) (hc : l.length ≤ c) (hl : l.length ≤ 140737488355328) (w : World) (hr : ReadB w w.heap.size A l) : Calls Tryd.prog 48 #[.slice A l.length c] w
    fun e w' => ∃ v, e = .returned v ∧ OwnB w' w.heap.size 5 v l ∧ Below w.heap.size w w' := by
  obtain ⟨i0, hi0⟩ := isByte_of info5
  have Hi := Lib.hid hi0
  have Hr := Lib.hid hr
  clear hi0 hr
  rcases A with _ | ad
  · have hl0 : l = [] := by
      rcases l with _ | ⟨x, l⟩
      · rfl
      · obtain ⟨_, _, hx, _⟩ := Hr.out (by simp)
        cases hx
    subst hl0
    have hnil := fun (w : World) => Lib.run_eql_slice_nil (P := Tryd.prog) w 22 5 none 0 c 0 0 Tryd.underlying22
    simp only [List.length_nil]
    go_enter Tryd.func48, Tryd.ntmps48
    go_wp2
    go_ret
    exact ⟨_, rfl, OwnB.nil, Below.refl _ _⟩
  · have hnil := fun (w : World) => Lib.run_eql_slice_nil (P := Tryd.prog) w 22 5 (some ad) l.length c 0 0 Tryd.underlying22
    go_enter Tryd.func48, Tryd.ntmps48
    have hown0 : OwnB (w.alloc (.cells #[] 5)) w.heap.size 5 (.slice (some ⟨w.heap.size, 0, none⟩) 0 0) [] := OwnB.lit0 w 5 w.heap.size w.heap.size rfl (Nat.le_refl _)
    have hr0 : ReadB (w.alloc (.cells #[] 5)) w.heap.size (some ad) l := Hr.out.alloc (Nat.le_refl _) _
    have Ho0 := Lib.hid hown0
    have Hr0 := Lib.hid hr0
    clear hown0 hr0
    go_wp2_with (at_builtin; go_loud (refine wpList_appB _ rfl (.tmp 5) (.tmp 6) 22 rfl w.heap.size 5 i0 Tryd.underlying22 Hi.out _ [] rfl Ho0.out w.heap.size (some ad) _ c l rfl rfl Hr0.out (by simp; omega) (by simp) ?_); intro v1 w1 ho1 _ _ hb1)
    go_ret
    rw [List.nil_append] at ho1
    exact ⟨v1, rfl, ho1, ((Below.refl _ _).alloc (Nat.le_refl _) _).trans hb1⟩
theorem st_nil : st [] = first := rfl
theorem wvs_first : #[Value.int .u32 1779033703, .int .u32 3144134277, .int .u32 1013904242, .int .u32 2773480762, .int .u32 1359893119, .int .u32 2600822924, .int .u32 528734635, .int .u32 1541459225] = (wvs first).toArray := rfl
set_option maxRecDepth 100000 in
set_option maxHeartbeats 400000 in
theorem first_calls (w : World) : Calls Tryd.prog 69 #[] w fun e w' => e = .returned (.agg (wvs first).toArray) ∧ Below w.heap.size w w' := by
  go_enter Tryd.func69, Tryd.ntmps69
  go_wp2_with (refine wpList_storeW rfl 120 (.tmp 0) (.tmp 1) rfl w.heap.size 120 (List.replicate 8 0) first rfl rfl (BlkW.new_ _ _ _ _ _ (by rfl) (by rfl)) (by rfl) (by kernel_rfl) ?_; intro w2 hW2 hg2)
  refine bodyPost_ret (results_cell_row (p := 0) (ty := 120) (by kernel_rfl) _ w2 w.heap.size 120 (wvs first).toArray (0, 0) _ rfl hW2 Tryd.underlying120 rfl (by kernel_rfl)) rfl ⟨rfl, ?_⟩
  exact only_after ((Below.refl _ _).alloc (Nat.le_refl _) _) hg2 (Nat.le_refl _)
set_option maxRecDepth 100000 in
set_option maxHeartbeats 400000 in
theorem new_calls (w : World) : Calls Tryd.prog 42 #[] w fun e w' => ∃ g, e = .returned (.pointer (some ⟨g, 0, none⟩)) ∧ w.heap.size ≤ g ∧ IsH w' g [] ∧ Below w.heap.size w w' := by
  go_enter Tryd.func42, Tryd.ntmps42
  go_wp2_with fail
  refine (first_calls w).mono ?_
  rintro e w1 ⟨rfl, hb1⟩
  have Hb1 := Lib.hid hb1
  clear hb1
  rw [← wvs_first]
  go_wp2_with fail
  go_ret
  exact ⟨w1.heap.size, rfl, Hb1.out.size, ⟨none, 0, heap_alloc_new _ _, rfl, Nat.le_refl _, by omega, ReadT.nil⟩, Hb1.out.alloc Hb1.out.size _⟩
set_option maxHeartbeats 400000 in
theorem write_nil (w : World) (A : Option Addr) (n c : Nat) : Calls Tryd.prog 43 #[.pointer none, .slice A n c] w fun e w' => e = .returned (.tuple #[]) ∧ w = w' := by
  go_enter Tryd.func43, Tryd.ntmps43
  go_wp2
  refine bodyPost_ret (results_none rfl _ _ _) rfl ⟨rfl, rfl⟩
end Sm
end Go.Proofs.YtiofkhjpknfkgaaDoor
/- What is written to a hasher. -/
namespace Go.Proofs.YtiofkhjpknfkgaaDoor
namespace Sm
open Go.RowKit Ba
set_option linter.unusedVariables false
/-- a hasher whose remainder lies in block lo or behind it -/
def IsGL (w : World) (g : Nat) (s : List UInt32) (r : List UInt8) (n lo : Nat) : Prop :=
  ∃ A c, Blk w g 123 (wvs s ++ [Value.slice A r.length c, Value.int .i64 (n : Int)]).toArray ∧ s.length = 8 ∧ r.length ≤ c ∧ c ≤ 9223372036854775807 ∧ ReadT w 5 A r ∧ ∀ ad, A = some ad → lo ≤ ad.block
theorem IsGL.g {w : World} {g : Nat} {s : List UInt32} {r : List UInt8} {n lo : Nat} (h : IsGL w g s r n lo) : IsG w g s r n := by
  obtain ⟨A, c, h1, h2, h3, h4, h5, _⟩ := h
  exact ⟨A, c, h1, h2, h3, h4, h5⟩
theorem IsGL.weak {w : World} {g : Nat} {s : List UInt32} {r : List UInt8} {n lo lo' : Nat} (h : IsGL w g s r n lo) (hl : lo' ≤ lo) : IsGL w g s r n lo' := by
  obtain ⟨A, c, h1, h2, h3, h4, h5, h6⟩ := h
  exact ⟨A, c, h1, h2, h3, h4, h5, fun ad had => Nat.le_trans hl (h6 ad had)⟩
theorem IsGL.below {w w' : World} {g : Nat} {s : List UInt32} {r : List UInt8} {n lo : Nat} (h : IsGL w g s r n lo) (hb : Below w.heap.size w w') : IsGL w' g s r n lo := by
  obtain ⟨A, c, h1, h2, h3, h4, h5, h6⟩ := h
  exact ⟨A, c, h1.below hb h1.lt, h2, h3, h4, h5.below hb, h6⟩
/-- what one row's growth leaves, where the row lies ahead of the remainder -/
theorem IsGL.rowed {w w' : World} {g : Nat} {s : List UInt32} {r : List UInt8} {n lo : Nat} {row : Option Nat} (h : IsGL w g s r n lo) (hg : w.grownBy w' row) (hr : ∀ k, row = some k → g ≠ k ∧ k < lo) : IsGL w' g s r n lo := by
  obtain ⟨A, c, h1, h2, h3, h4, h5, h6⟩ := h
  refine ⟨A, c, h1.grown hg (fun e => (hr g e.symm).1 rfl), h2, h3, h4, fun hn => ?_, h6⟩
  obtain ⟨b, o, cs, e, hB, hc⟩ := h5 hn
  have hb : some b ≠ row := fun e2 => by have := (hr b e2.symm).2; have := h6 _ e; simp at this; omega
  exact ⟨b, o, cs, e, hB.grown hg hb, fun k hk => (World.cell?_of_block (hg.block b hB.lt hb)).trans (hc k hk)⟩
set_option maxRecDepth 100000 in
set_option maxHeartbeats 1000000 in
theorem writeL_calls (w : World) (g B : Nat) (l b : List UInt8) (A : Option Addr) (c : Nat) (h : IsH w g l) (hg : 0 < g) (htab : Tab w) (hr : ReadB w B A b) (hBg : B ≤ g) (hbc : b.length ≤ c) (hcm : c ≤ 9223372036854775807) (hbl : b.length ≤ 140737488351232) (hsum : l.length + b.length ≤ 4611686018427387904) :
    Calls Tryd.prog 43 #[.pointer (some ⟨g, 0, none⟩), .slice A b.length c] w fun e w' => e = .returned (.tuple #[]) ∧ IsGL w' g (st (l ++ b)) (rs (l ++ b)) (l ++ b).length w.heap.size ∧ w.grownBy w' (some g) := by
  obtain ⟨i0, hi0⟩ := isByte_of info5
  have Hi := Lib.hid hi0
  obtain ⟨A0, c0, h1, h2, h3, h4, h5⟩ := h
  have hc9 := cell9 h1 h2
  have hf9 := Blk.frozen h1 9
  have hrl := rs_len l
  have Hr := Lib.hid hr
  have Hrl := Lib.hid hrl
  have H1 := Lib.hid h1
  have H2 := Lib.hid h2
  have H5 := Lib.hid h5
  have Htab := Lib.hid htab
  have hgl := h1.lt
  have Hgl := Lib.hid hgl
  have hg1 := only_set w g 9 (.int .i64 ((l.length : Int) + (b.length : Int)))
  have h1' := set9 h1 h2 (.int .i64 ((l.length : Int) + (b.length : Int)))
  have H1' := Lib.hid h1'
  have Hg1 := Lib.hid hg1
  have H5' := Lib.hid (h5.grown hg1 h1 (by decide))
  have Hr' := Lib.hid (hr.setFar (p := ⟨g, 9, none⟩) hBg (.int .i64 ((l.length : Int) + (b.length : Int))))
  have hc8 := cell8 h1' h2
  have hlen : (rs l).length ≤ 63 := by omega
  clear hr hrl h1 h2 h5 htab hgl hi0 h1' hg1
  go_enter Tryd.func43, Tryd.ntmps43
  go_wp2_with fail
  refine (clone_calls (rs l) A0 c0 h3 (by omega) _ H5'.out.readB).mono ?_
  rintro e w2 ⟨v2, rfl, ho2, hb2⟩
  have hW1s : (w.setCell ⟨g, 9, none⟩ (.int .i64 ((l.length : Int) + (b.length : Int)))).heap.size = w.heap.size := by simp
  rw [hW1s] at ho2 hb2
  have hb2' : Below w.heap.size (w.setCell ⟨g, 9, none⟩ (.int .i64 ((l.length : Int) + (b.length : Int)))) w2 := hb2
  have H2b := Lib.hid (H1'.out.below hb2' Hgl.out)
  have Hr2 := Lib.hid (Hr'.out.below (hb2'.mono (by have := Hgl.out; omega)))
  have Hg2 := Lib.hid (only_trans Hg1.out (only_of_below (by rw [hW1s]; exact hb2') (some g)))
  have Ho2 := Lib.hid ho2
  have Hs2 := Lib.hid hb2.size
  rw [hW1s] at Hs2
  clear ho2 hb2 hb2' hW1s hc8 hc9 hf9 H1' Hr' Hg1 H5'
  go_wp2_with ((at_builtin; go_loud (refine wpList_appB _ rfl (.tmp 20) (.tmp 21) 22 rfl w.heap.size 5 i0 Tryd.underlying22 Hi.out v2 (rs l) rfl Ho2.out B A _ c b rfl rfl Hr2.out (by omega) Hs2.out ?_); intro v3 w3 ho3 _ _ hb3; have hB3 := H2b.out.below hb3 Hgl.out; have hc8 := cell8 hB3 H2.out; have hf8 := Blk.frozen hB3 8; have HB3 := Lib.hid hB3; have Ho3 := Lib.hid ho3; obtain ⟨A3, c3, rfl, q1, q2, q3, q4⟩ := ho3.opens; have Hq3 := Lib.hid q3; have Hq4 := Lib.hid q4; have Hb3 := Lib.hid hb3; clear hB3 hb3 ho3 q3 q4))
  have q5 := ReadT.of_own Ho3.out
  have hB4 := set8 HB3.out H2.out (.slice A3 (rs l ++ b).length c3)
  have hg4 : w.grownBy (w3.setCell ⟨g, 8, none⟩ (.slice A3 (rs l ++ b).length c3)) (some g) := only_trans (only_below Hg2.out Hb3.out) (only_set _ _ _ _)
  have q6 := q5.grown (only_set w3 g 8 (.slice A3 (rs l ++ b).length c3)) HB3.out (by decide)
  obtain ⟨a, ha⟩ : ∃ a, a = l ++ b := ⟨_, rfl⟩
  have hal : (l.length : Int) + (b.length : Int) = (a.length : Int) := by rw [ha, List.length_append]; omega
  have hst0 : IsGL (w3.setCell ⟨g, 8, none⟩ (.slice A3 ((rs l).length + b.length) c3)) g (stk a (l.length / 64)) (a.drop (64 * (l.length / 64))) a.length w.heap.size := by
    rw [ha, ← rs_append, ← st_append]
    rw [hal, ha] at hB4
    rw [← List.length_append]
    exact ⟨A3, c3, hB4, H2.out, q1, q2, q6, fun ad had => (Hq4.out ad had).1⟩
  have hle0 : 64 * (l.length / 64) ≤ a.length := by rw [ha, List.length_append]; omega
  rw [List.length_append] at hg4
  have Ha := Lib.hid ha
  have Hst0 := Lib.hid hst0
  have Hg4 := Lib.hid hg4
  clear hal hst0 hg4 q6 hB4 q5 q1 q2 Hq3 Hq4 Hb3 Ho3 HB3 hc8 hf8 Ho2 Hr2 H2b Hg2 Hs2 ha H5 H1 H2
  go_loopg [] (a.length - 64 * (l.length / 64)) (fun n wr => ∃ j : Nat, 64 * j ≤ a.length ∧ n = a.length - 64 * j ∧ IsGL wr g (stk a j) (a.drop (64 * j)) a.length w.heap.size ∧ w.grownBy wr (some g))
  case atStart => exact ⟨_, hle0, rfl, Hst0.out, Hg4.out⟩
  case round =>
    obtain ⟨j, hj, hgk, ⟨A5, c5, hB, hs, hrc, hcc, hT, hlo⟩, hgw⟩ := hrel
    have Hlo := Lib.hid hlo
    clear hlo
    have hc8 := cell8 hB hs
    obtain ⟨r, hr⟩ : ∃ r, r = a.drop (64 * j) := ⟨_, rfl⟩
    rw [← hr] at hB hrc hT hc8
    have hrlen : r.length = a.length - 64 * j := by rw [hr, List.length_drop]
    have HB := Lib.hid hB
    have Hs := Lib.hid hs
    have HT := Lib.hid hT
    have Hgw := Lib.hid hgw
    have Hgk := Lib.hid hgk
    have Hrr := Lib.hid hr
    have Hrlen := Lib.hid hrlen
    have hrm : r.length ≤ 9223372036854775807 := Nat.le_trans hrc hcc
    clear hB hs hT hgw hgk hr hrlen
    by_cases h64 : 64 ≤ r.length
    · obtain ⟨b5, o5, cs5, rfl, hb5, hc5⟩ := HT.out (by omega)
      have hwk : Calls Tryd.prog 70 #[.pointer (some ⟨g, 0, none⟩), .slice (some ⟨b5, o5, none⟩) 64 c5] wr.drew
          fun e w' => e = .returned (.tuple #[]) ∧ Blk w' g 123 (wvs (stk a (j + 1)) ++ [Value.slice (some ⟨b5, o5, none⟩) r.length c5, Value.int .i64 (a.length : Int)]).toArray ∧ wr.grownBy w' (some g) := by
        have hr64 : ReadB wr.drew wr.drew.heap.size (some ⟨b5, o5, none⟩) (r.take 64) := HT.out.readB.take 64
        refine (work_calls (stk a j) Hs.out g 123 _ (r.take 64) (by rw [List.length_take]; omega) (some ⟨b5, o5, none⟩) c5 (by omega) hcc wr.drew hr64 HB.out hg (Htab.out.grown (grown_drew Hgw.out) hg)).mono ?_
        rintro e w' ⟨h1, h2, h3⟩
        refine ⟨h1, ?_, undrew h3⟩
        rw [Hrr.out] at h2
        rw [Hrr.out]
        exact h2
      have Hwk := Lib.hid hwk
      clear hwk hb5 hc5
      have i1 : (0 : Int) ≤ 64 := by omega
      have i2 : (64 : Int) ≤ (c5 : Int) := by omega
      go_wp2_with fail
      go_region_with (go_at_call 70; refine Hwk.out.mono ?_; rintro e w5 ⟨rfl, hB5, hg5⟩)
      have k8 := cell8 hB5 (stk_len a (j + 1))
      have kf := Blk.frozen hB5 8
      have hT5 := HT.out.grown hg5 HB.out (by decide)
      have hfin : ∀ A' c', A' = (if c5 = 64 then (some ⟨b5, o5, none⟩) else (some ⟨b5, o5 + 64, none⟩)) → c' = c5 - 64 →
          IsGL (w5.setCell ⟨g, 8, none⟩ (.slice A' (r.length - 64) c')) g (stk a (j + 1)) (a.drop (64 * (j + 1))) a.length w.heap.size ∧ w.grownBy (w5.setCell ⟨g, 8, none⟩ (.slice A' (r.length - 64) c')) (some g) := by
        intro A' c' hA hc'
        have hs6 := only_set w5 g 8 (.slice A' (r.length - 64) c')
        have hB6 := set8 hB5 (stk_len a (j + 1)) (.slice A' (r.length - 64) c')
        have hT6 : ReadT w5 5 A' (r.drop 64) := by
          subst hA
          by_cases hc : c5 = 64
          · have : r.drop 64 = [] := by rw [List.drop_eq_nil_iff]; omega
            rw [this]
            exact ReadT.nil
          · rw [if_neg hc]
            exact hT5.drop 64
        have e : a.drop (64 * (j + 1)) = r.drop 64 := by rw [Hrr.out, drop_drop64]
        rw [e]
        refine ⟨⟨A', c', ?_, stk_len _ _, by rw [List.length_drop]; omega, by omega, hT6.grown hs6 hB5 (by decide), fun ad had => ?_⟩, only_trans (only_trans Hgw.out hg5) hs6⟩
        · rw [List.length_drop]
          exact hB6
        · have h0 := Hlo.out ⟨b5, o5, none⟩ rfl
          subst hA
          by_cases hc : c5 = 64
          · rw [if_pos hc] at had; injection had with had; subst had; exact h0
          · rw [if_neg hc] at had; injection had with had; subst had; exact h0
      have Hfin := Lib.hid hfin
      clear hB5 hT5 hg5 hfin
      by_cases hc64 : c5 = 64
      all_goals
        go_wp2
        go_roundg (a.length - 64 * (j + 1))
        case rel =>
          have := Hrlen.out
          exact ⟨j + 1, by omega, rfl, Hfin.out _ _ (by simp [hc64]) (by omega)⟩
        case measure =>
          have := Hgk.out
          have := Hrlen.out
          omega
    · go_wp2
      have hjj : j = a.length / 64 := by have := Hrlen.out; omega
      refine bodyPost_end (results_none rfl _ _ _) rfl ⟨rfl, ?_, Hgw.out⟩
      rw [← Ha.out]
      unfold st rs
      rw [← hjj, ← Hrr.out]
      exact ⟨A5, c5, HB.out, Hs.out, hrc, hcc, HT.out, Hlo.out⟩
theorem write_calls (w : World) (g B : Nat) (l b : List UInt8) (A : Option Addr) (c : Nat) (h : IsH w g l) (hg : 0 < g) (htab : Tab w) (hr : ReadB w B A b) (hBg : B ≤ g) (hbc : b.length ≤ c) (hcm : c ≤ 9223372036854775807) (hbl : b.length ≤ 140737488351232) (hsum : l.length + b.length ≤ 4611686018427387904) :
    Calls Tryd.prog 43 #[.pointer (some ⟨g, 0, none⟩), .slice A b.length c] w fun e w' => e = .returned (.tuple #[]) ∧ IsH w' g (l ++ b) ∧ w.grownBy w' (some g) :=
  (writeL_calls w g B l b A c h hg htab hr hBg hbc hcm hbl hsum).mono fun e w' ⟨h1, h2, h3⟩ => ⟨h1, h2.g, h3⟩
end Sm
end Go.Proofs.YtiofkhjpknfkgaaDoor
/- The sum that a hasher tells. -/
namespace Go.Proofs.YtiofkhjpknfkgaaDoor
namespace Sm
open Go.RowKit Ba
set_option linter.unusedVariables false
attribute [local go_sem] U_add U_add' U_xor U_and U_or U_of_u8
theorem sh8 (n k : Nat) : (n : Int) * 8 / (2 : Int) ^ (56 - 8 * k) % 256 = ((UInt8.ofNat (8 * n / 2 ^ (56 - 8 * k))).toNat : Int) := by
  rw [UInt8.toNat_ofNat', Int.mul_comm]
  have e : ((2 : Int) ^ (56 - 8 * k)) = ((2 ^ (56 - 8 * k) : Nat) : Int) := by rw [Int.natCast_pow]; rfl
  rw [e]
  generalize 2 ^ (56 - 8 * k) = m
  have e2 : (8 * (n : Int)) / (m : Int) = ((8 * n / m : Nat) : Int) := by rw [Int.natCast_ediv]; rfl
  rw [e2]
  omega
theorem sh4 (x : UInt32) (k : Nat) : U x / (2 : Int) ^ (24 - 8 * (k % 4)) % 256 = (((x >>> UInt32.ofNat (24 - 8 * (k % 4))).toUInt8).toNat : Int) := by
  rw [U_shr x _ (by omega)]
  unfold U
  rw [UInt32.toNat_toUInt8]
  omega
theorem three_start {w w3 : World} {C1 C2 C3 : Array Value} {t1 t2 t3 : TypeId} (h : (((w.alloc (.cells C1 t1)).alloc (.cells C2 t2)).alloc (.cells C3 t3)).grownBy w3 (some (w.heap.size + 2))) :
    Below w.heap.size w w3 ∧ Blk w3 w.heap.size t1 C1 ∧ Blk w3 (w.heap.size + 1) t2 C2 := by
  have hb : Below w.heap.size w (((w.alloc (.cells C1 t1)).alloc (.cells C2 t2)).alloc (.cells C3 t3)) := (((Below.refl _ _).alloc (Nat.le_refl _) _).alloc (by simp) _).alloc (by simp; omega) _
  have h1 : Blk (((w.alloc (.cells C1 t1)).alloc (.cells C2 t2)).alloc (.cells C3 t3)) w.heap.size t1 C1 := Blk.alloc (Blk.alloc (heap_alloc_new _ _) _) _
  have h2 : Blk (((w.alloc (.cells C1 t1)).alloc (.cells C2 t2)).alloc (.cells C3 t3)) (w.heap.size + 1) t2 C2 := Blk.alloc (heap_alloc2_new _ _ _) _
  exact ⟨only_after hb h (by omega), h1.grown h (by simp), h2.grown h (by simp)⟩
theorem bvs_rep32 : #[Value.int .u8 0, .int .u8 0, .int .u8 0, .int .u8 0, .int .u8 0, .int .u8 0, .int .u8 0, .int .u8 0, .int .u8 0, .int .u8 0, .int .u8 0, .int .u8 0, .int .u8 0, .int .u8 0, .int .u8 0, .int .u8 0, .int .u8 0, .int .u8 0, .int .u8 0, .int .u8 0, .int .u8 0, .int .u8 0, .int .u8 0, .int .u8 0, .int .u8 0, .int .u8 0, .int .u8 0, .int .u8 0, .int .u8 0, .int .u8 0, .int .u8 0, .int .u8 0] = (bvs (List.replicate 32 0)).toArray := rfl
set_option maxRecDepth 100000 in
set_option maxHeartbeats 2000000 in
theorem sum_calls (w : World) (g : Nat) (l : List UInt8) (h : IsH w g l) (hg : 0 < g) (htab : Tab w) (hll : l.length ≤ 1152921504606846975) :
    Calls Tryd.prog 44 #[.pointer (some ⟨g, 0, none⟩)] w fun e w' => e = .returned (.agg (bvs (sha l)).toArray) ∧ Below w.heap.size w w' := by
  obtain ⟨i0, hi0⟩ := isByte_of info5
  have Hi := Lib.hid hi0
  have hgl := h.lt
  obtain ⟨A0, c0, h1, h2, h3, h4, h5⟩ := h
  have hc9 := cell9 h1 h2
  have hc8 := cell8 h1 h2
  have hrl := rs_len l
  have Hrl := Lib.hid hrl
  have H1 := Lib.hid h1
  have H2 := Lib.hid h2
  have H5 := Lib.hid h5
  have Htab := Lib.hid htab
  have Hgl := Lib.hid hgl
  have hlen : (rs l).length ≤ 63 := by omega
  clear hrl h1 h2 h5 htab hgl hi0
  go_enter Tryd.func44, Tryd.ntmps44
  go_wp2_with (first
    | (refine wpList_load_blk rfl 120 (.tmp 13) rfl g 0 123 [] (wvs (st l)) _ rfl (Blk.alloc (Blk.alloc H1.out _) _) rfl _ Tryd.underlying120 rfl (by rw [wvs_len, H2.out]; kernel_rfl) ?_)
    | (refine wpList_storeW rfl 120 (.tmp 4) (.tmp 14) rfl (w.heap.size + 2) 120 (List.replicate 8 0) (st l) rfl rfl (BlkW.new_ _ _ _ _ _ (by simp) (by rfl)) (by rw [H2.out]; rfl) (by rw [H2.out]; kernel_rfl) ?_; intro w3 hS3 hg3; obtain ⟨hb3, hR2, hR3⟩ := three_start hg3; have hB3 := H1.out.below hb3 Hgl.out; have hc8 := cell8 hB3 H2.out; have hc9 := cell9 hB3 H2.out; have HB3 := Lib.hid hB3; have HS3 := Lib.hid hS3; have HR2 := Lib.hid hR2; have HR3 := Lib.hid hR3; have HT3 := Lib.hid (H5.out.below hb3); have Htab3 := Lib.hid (Htab.out.below hb3); have Hb3 := Lib.hid hb3; clear hS3 hg3 hb3 hR2 hR3 hB3)
    | (go_at_call 48; refine (clone_calls (rs l) A0 c0 h3 (by omega) _ HT3.out.readB).mono ?_; rintro e w4 ⟨v4, rfl, ho4, hb4⟩; have Ho4 := Lib.hid ho4; have Hb4 := Lib.hid hb4; clear ho4 hb4)
    | (at_builtin; go_loud (refine wpList_appB _ rfl (.tmp 19) (.tmp 20) 22 rfl w3.heap.size 5 i0 Tryd.underlying22 Hi.out v4 (rs l) rfl (Ho4.out.alloc _) _ _ _ 1 [128] rfl rfl (ReadB.lit1 _ _ 128 128 rfl) (by simp; omega) (by have := Hb4.out.size; simp; omega) ?_); intro v5 w5 ho5 _ _ hb5; have Ho5 := Lib.hid ho5; have Hb5 := Lib.hid ((Hb4.out.alloc Hb4.out.size _).trans hb5); clear ho5 hb5))
  rw [bvs_rep32] at HR2 HR3
  clear hc8 HT3 Ho4 Hb4
  obtain ⟨n, hn⟩ : ∃ n, n = l.length := ⟨_, rfl⟩
  have Hn := Lib.hid hn
  clear hn
  have hz := zeros_lt n
  have Hz := Lib.hid hz
  clear hz
  go_loopg [5] (zeros n) (fun m v wr => ∃ j : Nat, j ≤ zeros n ∧ m = zeros n - j ∧ OwnB wr w3.heap.size 5 v (rs l ++ 128 :: List.replicate j 0) ∧ Below w3.heap.size w3 wr)
  case atStart => exact ⟨0, Nat.zero_le _, rfl, Ho5.out, Hb5.out⟩
  case round =>
    obtain ⟨j, hj, hm, ho, hb⟩ := hrel
    obtain ⟨q, hq⟩ : ∃ q, q = rs l ++ 128 :: List.replicate j 0 := ⟨_, rfl⟩
    rw [← hq] at ho
    have hql : q.length = n % 64 + 1 + j := by rw [hq, List.length_append, Hrl.out, ← Hn.out]; simp; omega
    have Hq := Lib.hid hq
    have Hm := Lib.hid hm
    obtain ⟨A5, c5, rfl, p1, p2, p3, p4⟩ := ho.opens
    have Ho := Lib.hid ho
    have Hb := Lib.hid hb
    have Hql := Lib.hid hql
    have hlt : q.length < 200 := by have := Hz.out; omega
    clear p3 p4 hb ho hm hq
    by_cases hjz : j < zeros n
    · have t1 : ((q.length : Int) % 64 == 56) = false := by
        have : ¬ (q.length : Int) % 64 = 56 := by unfold zeros at hjz; omega
        simpa using this
      have t2 : ((q.length : Int) % 64 != 56) = true := by rw [bne, t1]; rfl
      clear hql
      go_wp2_with ((at_builtin; go_loud (refine wpList_appB _ rfl (.tmp 26) (.tmp 27) 22 rfl w3.heap.size 5 i0 Tryd.underlying22 Hi.out _ q rfl (Ho.out.alloc _) _ _ _ 1 [0] rfl rfl (ReadB.lit1 _ _ 0 0 rfl) (by simp; omega) (by have := Hb.out.size; simp; omega) ?_); intro v6 w6 ho6 _ _ hb6; have Ho6 := Lib.hid ho6; have Hb6 := Lib.hid ((Hb.out.alloc Hb.out.size _).trans hb6); clear ho6 hb6))
      go_roundg (zeros n - (j + 1))
      case rel =>
        refine ⟨j + 1, by omega, rfl, ?_, Hb6.out⟩
        have e : rs l ++ 128 :: List.replicate (j + 1) 0 = q ++ [0] := by rw [Hq.out, List.replicate_succ']; simp
        rw [e]
        exact Ho6.out
      case measure => have := Hm.out; omega
    · have hjz2 : j = zeros n := by omega
      have t1 : ((q.length : Int) % 64 == 56) = true := by
        have : (q.length : Int) % 64 = 56 := by unfold zeros at hjz2; omega
        simpa using this
      have t2 : ((q.length : Int) % 64 != 56) = false := by rw [bne, t1]; rfl
      have hq2 := Hq.out
      rw [hjz2] at hq2
      have Hq2 := Lib.hid hq2
      have Hjz2 := Lib.hid hjz2
      clear hql hjz hjz2 hq2
      go_wp2
      clear t1 t2
      have hn60 : n ≤ 1152921504606846975 := by rw [Hn.out]; exact hll
      rw [← Hn.out] at HB3
      go_loopw [5, 6] (fun v i wx => ∃ k : Nat, k ≤ 8 ∧ i = .int .i64 (56 - 8 * (k : Int)) ∧ OwnB wx w3.heap.size 5 v (q ++ (bytes8 (8 * n)).take k) ∧ Below w3.heap.size w3 wx) (fun _ i _ => (intOf i + 8).toNat)
      case atStart => exact ⟨0, Nat.zero_le _, rfl, by rw [List.take_zero, List.append_nil]; exact Ho.out, Hb.out⟩
      case round =>
        obtain ⟨k, hk, rfl, ho, hb⟩ := hrel
        obtain ⟨p, hp⟩ : ∃ p, p = q ++ (bytes8 (8 * n)).take k := ⟨_, rfl⟩
        rw [← hp] at ho
        have Hp := Lib.hid hp
        have hpl : p.length ≤ 300 := by rw [hp, List.length_append, List.length_take]; omega
        clear hp
        obtain ⟨A7, c7, rfl, p5, p6, p7, p8⟩ := ho.opens
        have hc9 := cell9 (HB3.out.below hb HB3.out.lt) H2.out
        have Ho7 := Lib.hid ho
        have Hb7 := Lib.hid hb
        clear p7 p8 hb ho
        by_cases hk8 : k < 8
        · have hu8 := sh8 n k
          generalize hz : UInt8.ofNat (8 * n / 2 ^ (56 - 8 * k)) = z at hu8
          have Hz8 := Lib.hid hz
          clear hz
          go_wp2_with ((at_builtin; go_loud (refine wpList_appB _ rfl (.tmp 33) (.tmp 43) 22 rfl w3.heap.size 5 i0 Tryd.underlying22 Hi.out _ p rfl (Ho7.out.alloc _) _ _ _ 1 [z] rfl rfl (ReadB.lit1 _ _ _ _ (by first | rfl | exact hu8)) (by simp; omega) (by have := Hb7.out.size; simp; omega) ?_); intro v8 w8 ho8 _ _ hb8; have Ho8 := Lib.hid ho8; have Hb8 := Lib.hid ((Hb7.out.alloc Hb7.out.size _).trans hb8); clear ho8 hb8))
          go_roundw
          case rel =>
            refine ⟨k + 1, by omega, by rw [show (56 - 8 * (k : Int) - 8) = 56 - 8 * ((k + 1 : Nat) : Int) by omega], ?_, Hb8.out⟩
            rw [bytes8_succ _ _ hk8, ← List.append_assoc, ← Hp.out, Hz8.out]
            exact Ho8.out
          case measure => simp [intOf]; omega
        · have hk8' : k = 8 := by omega
          obtain ⟨P, hP⟩ : ∃ P, P = l ++ pad n := ⟨_, rfl⟩
          have hpP : p = P.drop (64 * (l.length / 64)) := by
            rw [Hp.out, hk8', Hq2.out, hP, ← rs_append, pad_eq, List.append_assoc]
            rfl
          have hPl : P.length % 64 = 0 := by
            rw [hP, List.length_append, pad_len, Hn.out]
            exact zeros_mod _
          have hPle : 64 * (l.length / 64) ≤ P.length := by rw [hP, List.length_append]; omega
          have hPst : st l = stk P (l.length / 64) := by rw [hP]; exact st_append _ _
          have hPm : P.length ≤ 2305843009213693952 := by rw [hP, List.length_append, pad_len, ← Hn.out]; have := Hz.out; omega
          have hT7 : ReadT wr 5 A7 p := ReadT.of_own Ho7.out
          rw [hPst] at HS3
          have hHb3s := Hb3.out.size
          have HP := Lib.hid hP
          have HpP := Lib.hid hpP
          have HPl := Lib.hid hPl
          have HT7 := Lib.hid hT7
          clear hP hpP hPl hPst hT7 hc9 Ho7
          obtain ⟨g4, hg4⟩ : ∃ g4, g4 = w.heap.size + 2 := ⟨_, rfl⟩
          rw [← hg4] at HS3
          have Hg4 := Lib.hid hg4
          clear hg4
          go_wp2
          have hS7 := HS3.out.below Hb7.out HS3.out.lt
          have hw7 := only_of_below Hb7.out (some g4)
          have HS7 := Lib.hid hS7
          have Hw7 := Lib.hid hw7
          have hg40 : 0 < g4 := by rw [Hg4.out]; omega
          rw [show (w.heap.size + 1 + 1) = g4 from by rw [Hg4.out]]
          have HpS : Hid (.slice A7 p.length c7 = Value.slice A7 (P.drop (64 * (l.length / 64))).length c7) := Lib.hid (by rw [← HpP.out])
          rw [HpP.out] at HT7 p5
          clear hk8' hk8 hk Hp hS7 hw7
          go_loopg [5] (P.length - 64 * (l.length / 64)) (fun m v wx => ∃ (j : Nat) (A : Option Addr) (c : Nat), 64 * j ≤ P.length ∧ m = P.length - 64 * j ∧ v = .slice A (P.drop (64 * j)).length c ∧ (P.drop (64 * j)).length ≤ c ∧ c ≤ 9223372036854775807 ∧ ReadT wx 5 A (P.drop (64 * j)) ∧ BlkW wx g4 120 (stk P j) ∧ w3.grownBy wx (some g4))
          case atStart => exact ⟨_, A7, c7, hPle, rfl, HpS.out, p5, p6, HT7.out, HS7.out, Hw7.out⟩
          case round =>
            obtain ⟨j, A, c, hj, hm, hv, hrc, hcc, hT, hS, hgw⟩ := hrel
            obtain ⟨r, hr⟩ : ∃ r, r = P.drop (64 * j) := ⟨_, rfl⟩
            rw [← hr] at hv hrc hT
            subst hv
            have hrlen : r.length = P.length - 64 * j := by rw [hr, List.length_drop]
            have HS := Lib.hid hS
            have HT := Lib.hid hT
            have Hgw := Lib.hid hgw
            have Hm := Lib.hid hm
            have Hrr := Lib.hid hr
            have Hrlen := Lib.hid hrlen
            have hrm : r.length ≤ 9223372036854775807 := Nat.le_trans hrc hcc
            clear hS hT hgw hm hr hrlen
            by_cases h0 : 0 < r.length
            · have h64 : 64 ≤ r.length := by have := Hrlen.out; have := HPl.out; omega
              obtain ⟨b5, o5, cs5, rfl, hb5, hcl5⟩ := HT.out (by omega)
              have hwk : Calls Tryd.prog 70 #[.pointer (some ⟨g4, 0, none⟩), .slice (some ⟨b5, o5, none⟩) 64 c] wr
                  fun e w' => e = .returned (.tuple #[]) ∧ BlkW w' g4 120 (stk P (j + 1)) ∧ wr.grownBy w' (some g4) := by
                have hr64 : ReadB wr wr.heap.size (some ⟨b5, o5, none⟩) (r.take 64) := HT.out.readB.take 64
                refine (work_calls (stk P j) (stk_len _ _) g4 120 [] (r.take 64) (by rw [List.length_take]; omega) (some ⟨b5, o5, none⟩) c (by omega) hcc wr hr64 (by rw [List.append_nil]; exact HS.out) hg40 (Htab3.out.grown Hgw.out hg40)).mono ?_
                rintro e w' ⟨h1, h2, h3⟩
                refine ⟨h1, ?_, h3⟩
                rw [Hrr.out, List.append_nil] at h2
                exact h2
              have Hwk := Lib.hid hwk
              clear hwk hb5 hcl5
              have i1 : (0 : Int) ≤ 64 := by omega
              have i2 : (64 : Int) ≤ (c : Int) := by omega
              go_wp2_with fail
              refine Hwk.out.mono ?_
              rintro e w5 ⟨rfl, hS5, hg5⟩
              have hT5 := HT.out.grown hg5 HS.out (by decide)
              have hfin : ∀ A' c', A' = (if c = 64 then (some ⟨b5, o5, none⟩) else (some ⟨b5, o5 + 64, none⟩)) → c' = c - 64 →
                  (Value.slice A' (r.length - 64) c' = .slice A' (P.drop (64 * (j + 1))).length c' ∧ (P.drop (64 * (j + 1))).length ≤ c' ∧ c' ≤ 9223372036854775807 ∧ ReadT w5 5 A' (P.drop (64 * (j + 1))) ∧ BlkW w5 g4 120 (stk P (j + 1)) ∧ w3.grownBy w5 (some g4)) := by
                intro A' c' hA hc'
                have e : P.drop (64 * (j + 1)) = r.drop 64 := by rw [Hrr.out, drop_drop64]
                have hT6 : ReadT w5 5 A' (r.drop 64) := by
                  subst hA
                  by_cases hc : c = 64
                  · have : r.drop 64 = [] := by rw [List.drop_eq_nil_iff]; omega
                    rw [this]
                    exact ReadT.nil
                  · rw [if_neg hc]
                    exact hT5.drop 64
                rw [e, List.length_drop]
                exact ⟨rfl, by omega, by omega, hT6, hS5, only_trans Hgw.out hg5⟩
              have Hfin := Lib.hid hfin
              clear hS5 hT5 hg5 hfin
              by_cases hc64 : c = 64
              all_goals
                go_wp2
                go_roundg (P.length - 64 * (j + 1))
                case rel =>
                  have := Hrlen.out
                  exact ⟨j + 1, _, _, by omega, rfl, Hfin.out _ _ (by simp [hc64]) (by omega)⟩
                case measure =>
                  have := Hm.out
                  have := Hrlen.out
                  omega
            · have hjj : j = P.length / 64 := by have := Hrlen.out; have := HPl.out; omega
              have hS8 := HS.out
              rw [hjj] at hS8
              have e : stk P (P.length / 64) = st P := rfl
              rw [e] at hS8
              have hsl : (st P).length = 8 := stk_len _ _
              have ho : out (st P) = sha l := by rw [HP.out, Hn.out]; rfl
              obtain ⟨S, hSS⟩ : ∃ S, S = st P := ⟨_, rfl⟩
              rw [← hSS] at hS8 hsl ho
              have hlt4 := HS3.out.lt
              have hR2 := Blk.grown (HR2.out) Hgw.out (by rw [Hg4.out]; simp)
              have hR3 := Blk.grown (HR3.out) Hgw.out (by rw [Hg4.out]; simp)
              have hbw : Below w.heap.size w wr := Hb3.out.trans (below_of_only Hgw.out (by rw [Hg4.out]; omega) hHb3s)
              have Ho := Lib.hid ho
              have HS8 := Lib.hid hS8
              have Hsl := Lib.hid hsl
              have HR2' := Lib.hid hR2
              have HR3' := Lib.hid hR3
              have Hbw := Lib.hid hbw
              clear ho hS8 hsl hR2 hR3 hbw hSS hjj e hlt4
              go_wp2
              go_loopw [7, 53] (fun _ i wx => ∃ k : Nat, k ≤ 32 ∧ i = .int .i64 k ∧ Blk wx (w.heap.size + 1) 42 (bvs (oo S k)).toArray ∧ BlkW wx g4 120 S ∧ Blk wx w.heap.size 42 (bvs (List.replicate 32 0)).toArray ∧ Below w.heap.size w wx) (fun _ i _ => 32 - (intOf i).toNat)
              case atStart => exact ⟨0, Nat.zero_le _, rfl, HR3'.out, HS8.out, HR2'.out, Hbw.out⟩
              case round =>
                obtain ⟨i, hi, rfl, hR3, hS8, hR2, hbw⟩ := hrel
                by_cases hil : i < 32
                · have hcs := hS8.cell (i / 4) (by rw [Hsl.out]; omega)
                  have hco := Blk.cell hR3 i
                  rw [List.getElem?_toArray, bvs_get _ _ (by rw [oo_len _ _ hi]; omega)] at hco
                  have hfo := Blk.frozen hR3 i
                  have hs4 := sh4 (Sm.g S (i / 4)) i
                  generalize hz : (Sm.g S (i / 4) >>> UInt32.ofNat (24 - 8 * (i % 4))).toUInt8 = z at hs4
                  have Hz9 := Lib.hid hz
                  clear hz
                  have HR3 := Lib.hid hR3
                  have HS8 := Lib.hid hS8
                  have HR2 := Lib.hid hR2
                  have Hbw := Lib.hid hbw
                  clear hR3 hS8 hR2 hbw
                  go_wp2
                  go_roundw
                  case rel =>
                    refine ⟨i + 1, by omega, by go_num, ?_, HS8.out.far (by rw [Hg4.out]; simp) _, HR2.out.far (by simp) _, Hbw.out.setCell (by simp) _⟩
                    have := Blk.set_ HR3.out i (.int .u8 (z.toNat : Int))
                    rw [toArray_set] at this
                    have e : (bvs (oo S i)).set i (.int .u8 (z.toNat : Int)) = bvs (oo S (i + 1)) := by
                      rw [← oo_set S i hil, Hz9.out]
                      simp [bvs, List.map_set, bv]
                    rw [e] at this
                    exact this
                  case measure => simp [intOf]; omega
                · have hi32 : i = 32 := by omega
                  rw [hi32, oo_32, Ho.out] at hR3
                  have hlo : (sha l).length = 32 := by rw [← Ho.out]; exact out_len _
                  have HR3 := Lib.hid hR3
                  have HR2 := Lib.hid hR2
                  have Hbw := Lib.hid hbw
                  have Hlo := Lib.hid hlo
                  clear hR3 hS8 hR2 hbw hi32 hi hlo
                  go_wp2_with (first
                    | (refine wpList_load_blk rfl 42 (.tmp 3) rfl (w.heap.size + 1) 0 42 [] (bvs (sha l)) [] rfl (by simpa using HR3.out) rfl _ Tryd.underlying42 rfl (by rw [bvs_length, Hlo.out]; kernel_rfl) ?_)
                    | (refine wpList_store_blk rfl 42 (.tmp 2) (.tmp 69) rfl w.heap.size 0 42 [] (bvs (List.replicate 32 0)) [] (bvs (sha l)) rfl rfl (by simpa using HR2.out) rfl (by rw [bvs_length, bvs_length, Hlo.out]; rfl) (by rw [bvs_length, Hlo.out]; kernel_rfl) (bvs_one _) ?_; intro w9 hR9 hg9))
                  refine bodyPost_ret (results_cell_row (p := 2) (ty := 42) (by kernel_rfl) _ w9 w.heap.size 42 (bvs (sha l)).toArray (0, 0) _ rfl (by simp only [List.nil_append, List.append_nil] at hR9; exact hR9) Tryd.underlying42 rfl (by rw [List.size_toArray, bvs_length, Hlo.out]; kernel_rfl)) rfl ⟨rfl, Hbw.out.trans (below_of_only hg9 (Nat.le_refl _) Hbw.out.size)⟩
end Sm
end Go.Proofs.YtiofkhjpknfkgaaDoor

/- Whatever goes in and out, a window has the bytes and the sum: the walk of the statement. -/
import Derived.Test.YtcbkhbnemhkheaaRlaw1
import Derived.Test.YtcbkhbnemhkheaaRact
import Derived.Deep.CutBlock
import Derived.Deep.CutRange
namespace Go.Proofs.Ytcbkhbnemhkheaa
namespace Ro
open Go.RowKit Flo Ba
set_option linter.unusedVariables false
theorem read_other {w w' : World} {g o B : Nat} {l : List UInt8} {row : Option Nat} (hr : ReadB w B (some ⟨g, o, none⟩) l) (hg : w.grownBy w' row) (hne : some g ≠ row) (hB : g < w.heap.size) : ReadB w' w'.heap.size (some ⟨g, o, none⟩) l := fun hn => by
  obtain ⟨b, o', e, hb, hc⟩ := hr hn
  injection e with e
  injection e with e1 e2
  subst e1 e2
  exact ⟨g, o, rfl, Nat.lt_of_lt_of_le hB hg.size, fun k hk => (World.cell?_of_block (hg.block g hB hne)).trans (hc k hk)⟩
/-- what stands at the head of each round -/
structure Rnd (w w1 : World) (g : Nat) (N k : Nat) (Av : Option Addr) (n cv : Nat) (ls : List UInt8) (u : Value) (W : World) : Prop where
  hl : ls.length ≤ N + k
  hn : n = ls.length
  hu : IsWu W w.heap.size g u ls
  hv : OwnO W w1.heap.size 5 (.slice Av n cv) ls
  hp : Parted W g u (.slice Av n cv)
  hb : Below w.heap.size w W
  hs : w1.heap.size ≤ W.heap.size
theorem Rnd.step {w w1 : World} {g N k n cv : Nat} {Av : Option Addr} {ls : List UInt8} {u : Value} {W : World} (h : Rnd w w1 g N k Av n cv ls u W) : Rnd w w1 g N (k + 1) Av n cv ls u W :=
  ⟨by have := h.hl; omega, h.hn, h.hu, h.hv, h.hp, h.hb, h.hs⟩
/-- a call on the window: In or Roll or Out -/
theorem Rnd.win {w w1 : World} {g N k k' n cv : Nat} {Av : Option Addr} {ls ls' : List UInt8} {u u' : Value} {W W' : World} (h : Rnd w w1 g N k Av n cv ls u W) (hu : IsWu W' w.heap.size g u' ls') (ho : u'.ownBlock = u.ownBlock ∨ ∃ k, u'.ownBlock = some k ∧ W.heap.size ≤ k ∧ k < W'.heap.size) (hk : Keep W W' g u) (hb : Below w.heap.size W W') :
    OwnO W' w1.heap.size 5 (.slice Av n cv) ls ∧ Parted W' g u' (.slice Av n cv) ∧ Below w.heap.size w W' ∧ w1.heap.size ≤ W'.heap.size :=
  ⟨hk _ _ _ _ h.hv h.hp.pg h.hp.puv, h.hp.win ho hb.size, h.hb.trans hb, Nat.le_trans h.hs hb.size⟩
/-- append one byte to has, behind an allocation -/
theorem app_facts {w w1 : World} {g N k n cv : Nat} {Av : Option Addr} {ls : List UInt8} {u v : Value} {y : UInt8} {W W1 W2 : World} (hww : w.heap.size ≤ w1.heap.size) (hl : ls.length ≤ N + k) (hu : IsWu W w.heap.size g u (ls ++ [y])) (hp : Parted W g u (.slice Av n cv)) (hb : Below w.heap.size w W) (hs : w1.heap.size ≤ W.heap.size)
    (ha : Below W.heap.size W W1) (hv : OwnO W2 w1.heap.size 5 v (ls ++ [y])) (hg : W1.grownBy W2 (Value.slice Av n cv).ownBlock) (hor : v.ownBlock = (Value.slice Av n cv).ownBlock ∨ v.ownBlock = some W1.heap.size) (hb2 : Below w1.heap.size W1 W2) :
    ∃ A2 n2 c2, v = .slice A2 n2 c2 ∧ Rnd w w1 g N (k + 1) A2 n2 c2 (ls ++ [y]) u W2 := by
  obtain ⟨A2, c2, e, _⟩ := hv.opens
  refine ⟨A2, _, c2, e, by rw [List.length_append, List.length_singleton]; omega, rfl, (hu.below ha).grown hg hp.pg hp.puv, by rw [← e]; exact hv, ?_, hb.trans ((ha.mono (by omega)).trans (hb2.mono hww)), by have := ha.size; have := hb2.size; omega⟩
  rw [← e]
  refine hp.has (hor.imp id fun e2 => ?_) (Nat.le_trans ha.size hb2.size)
  obtain ⟨kk, e3, _, h4⟩ := OwnO.lt hv (by simp)
  exact ⟨W1.heap.size, e2, ha.size, by rw [e2] at e3; injection e3 with e3; omega⟩
theorem none_below {w w' : World} (h : w.grownBy w' none) : Below w.heap.size w w' := ⟨h.os, h.tape, h.output, h.size, fun i hi => h.block i hi (by simp)⟩
/-- has in memory of its own -/
theorem new_facts {w w1 : World} {g N k b' : Nat} {ls : List UInt8} {u v0 v : Value} {y : UInt8} {W W2 : World} (hww : w.heap.size ≤ w1.heap.size) (hl : ls.length ≤ N + k) (hu : IsWu W w.heap.size g u (ls ++ [y])) (hp : Parted W g u v0) (hb : Below w.heap.size w W) (hs : w1.heap.size ≤ W.heap.size)
    (hv : OwnB W2 b' 5 v (ls ++ [y])) (hbb : W.heap.size ≤ b') (hb2 : Below W.heap.size W W2) :
    ∃ A2 n2 c2, v = .slice A2 n2 c2 ∧ Rnd w w1 g N (k + 1) A2 n2 c2 (ls ++ [y]) u W2 := by
  obtain ⟨A2, c2, e, _⟩ := hv.opens
  have ho := (OwnO.of_own hv).weak (Nat.le_trans hs hbb)
  refine ⟨A2, _, c2, e, by rw [List.length_append, List.length_singleton]; omega, rfl, hu.below hb2, by rw [← e]; exact ho, ?_, hb.trans (hb2.mono (by omega)), by have := hb2.size; omega⟩
  rw [← e]
  obtain ⟨kk, e3, h3, h4⟩ := OwnO.lt (OwnO.of_own hv) (by simp)
  exact hp.has (.inr ⟨kk, e3, Nat.le_trans hbb h3, h4⟩) hb2.size
set_option maxRecDepth 100000 in
set_option maxHeartbeats 16000000 in
theorem rollWindows_calls (a : List UInt8) (A : Option Addr) (c : Nat) (m : List (UInt8 × UInt8)) (Am : Option Addr) (cm : Nat) (hc : a.length ≤ c) (hcm : c ≤ 9223372036854775807) (hmc : m.length ≤ cm) (hmm : cm ≤ 9223372036854775807) (w : World) (hr : ReadB w w.heap.size A a) (hrm : ReadA w w.heap.size Am m) : Calls Try.prog 6 #[.slice A a.length c, .slice Am m.length cm] w fun e w' => e = .returned (.bool true) ∧ Below w.heap.size w w' := by
  have Hr := Lib.hid hr
  have Hrm := Lib.hid hrm
  obtain ⟨i0, hi0⟩ := isByte_of info5
  have Hi := Lib.hid hi0
  clear hr hrm hi0
  by_cases h1 : 2000 < a.length
  · have g1 : decide (2000 < (a.length : Int)) = true := by rw [decide_eq_true_eq]; omega
    go_enter Try.func6, Try.ntmps6
    go_wp2_with fail
    refine (awake_calls w).mono ?_
    rintro e w1 ⟨rfl, hb⟩
    have Hbb := Lib.hid hb
    clear hb
    go_wp2_with fail
    go_ret
    exact ⟨rfl, Hbb.out⟩
  have g1 : decide (2000 < (a.length : Int)) = false := by rw [decide_eq_false_iff_not]; omega
  by_cases h2 : 300 < m.length
  · have g2 : decide (300 < (m.length : Int)) = true := by rw [decide_eq_true_eq]; omega
    go_enter Try.func6, Try.ntmps6
    go_wp2_with fail
    refine (awake_calls w).mono ?_
    rintro e w1 ⟨rfl, hb⟩
    have Hbb := Lib.hid hb
    clear hb
    go_wp2_with fail
    go_ret
    exact ⟨rfl, Hbb.out⟩
  have g2 : decide (300 < (m.length : Int)) = false := by rw [decide_eq_false_iff_not]; omega
  go_enter Try.func6, Try.ntmps6
  go_wp2_with fail
  refine (newU_calls (l := a) rfl hc Hr.out (by omega)).mono ?_
  rintro e w1 ⟨g, rfl, ⟨u1, hU1, hk1⟩, hb1⟩
  have Hk1 := Lib.hid hk1
  have HU1 := Lib.hid hU1
  have HB1 := Lib.hid hb1
  have Hr1 := Lib.hid (Hr.out.below hb1)
  clear hU1 hb1 hk1
  go_wp2_with (at_builtin; refine wpList_appB _ rfl (.tmp 22) (.tmp 23) 22 rfl w1.heap.size 5 i0 Try.underlying22 Hi.out _ [] rfl (OwnB.lit0 w1 5 w1.heap.size w1.heap.size rfl (Nat.le_refl _)) w.heap.size A _ c a rfl rfl (Hr1.out.below ((Below.refl _ _).alloc HB1.out.size _)) (by simp; omega) (by simp) ?_; intro v2 w2 ho2 _ _ hb2; rw [List.nil_append] at ho2; obtain ⟨A2, c2, rfl, t1, t2, t3, t4⟩ := ho2.opens; have Ho2 := Lib.hid ho2; have Hb2 := Lib.hid (((Below.refl _ _).alloc (Nat.le_refl _) _).trans hb2); clear ho2 hb2 t3 t4)
  have Hww := Lib.hid HB1.out.size
  have HR0 : Hid (Rnd w w1 g a.length 0 A2 a.length c2 a u1 w2) := Lib.hid (by
    refine ⟨by omega, rfl, HU1.out.below (Hb2.out.mono (Nat.le_refl _)), OwnO.of_own Ho2.out, ⟨fun k e => Nat.lt_of_lt_of_le (Hk1.out k e) Hb2.out.size, fun k e => (World.ownsRow.lt Ho2.out k e).2, fun e => ?_, ?_, Nat.lt_of_lt_of_le HU1.out.w.lt Hb2.out.size⟩, HB1.out.trans (Hb2.out.mono HB1.out.size), Hb2.out.size⟩
    · have h1 := (World.ownsRow.lt Ho2.out g e).1
      have h2 := HU1.out.w.lt
      omega
    · rcases hv : (Value.slice A2 a.length c2).ownBlock with _ | kv
      · exact .inl rfl
      · right
        intro e
        have h1 := (World.ownsRow.lt Ho2.out kv hv).1
        have h2 := Hk1.out kv e.symm
        omega)
  clear Ho2 Hb2 HU1 Hk1 HB1 Hr1
  go_wp2_with fail
  go_loopw [6, 7] (fun hv i wr => ∃ (k : Nat) (Av : Option Addr) (n cv : Nat) (ls : List UInt8) (u : Value), k ≤ m.length ∧ hv = .slice Av n cv ∧ i = .int .i64 (k : Int) ∧ Rnd w w1 g a.length k Av n cv ls u wr) (fun _ i _ => m.length - (intOf i).toNat)
  case atStart => exact ⟨0, A2, a.length, c2, a, u1, by omega, rfl, rfl, HR0.out⟩
  case round =>
    obtain ⟨k, Av, n, cv, ls, u, hk, rfl, rfl, hR⟩ := hrel
    have HR := Lib.hid hR
    clear hR HR0
    have hln : n ≤ 2300 := by have := HR.out.hl; have := HR.out.hn; omega
    by_cases hlt : k < m.length
    · obtain ⟨mb, mo, eA, hmb, hmc1⟩ := Hrm.out (by omega)
      subst eA
      have HC : Hid (∀ W, Below w.heap.size w W → W.cell? ⟨mb, mo + k * 2, none⟩ = some (.int .u8 (((m.getD k (0, 0)).1.toNat : Nat) : Int)) ∧ W.cell? ⟨mb, mo + k * 2 + 1, none⟩ = some (.int .u8 (((m.getD k (0, 0)).2.toNat : Nat) : Int))) := Lib.hid (fun W hW => ⟨(hW.cell (p := ⟨mb, mo + k * 2, none⟩) hmb).trans (hmc1 k hlt).1, (hW.cell (p := ⟨mb, mo + k * 2 + 1, none⟩) hmb).trans (hmc1 k hlt).2⟩)
      obtain ⟨z, hz⟩ : ∃ z, z = (m.getD k (0, 0)).1.toNat := ⟨_, rfl⟩
      obtain ⟨y, hy⟩ : ∃ y, y = (m.getD k (0, 0)).2 := ⟨_, rfl⟩
      rw [← hz, ← hy] at HC
      clear hmc1 hz hy
      have hc0 := (HC.out _ HR.out.hb).1
      have hc1 := (HC.out _ HR.out.hb).2
      go_upto_block 2 with fail
      go_cut [6, 8, 9, 10] from 25 to 120 (fun hv b1 b2 b3 wx => ∃ (Av : Option Addr) (n cv : Nat) (ls : List UInt8) (u : Value), hv = .slice Av n cv ∧ Rnd w w1 g a.length (k + 1) Av n cv ls u wx)
      case rest =>
        obtain ⟨Av5, n5, cv5, ls5, u5, rfl, hr5⟩ := hcut
        have HR5 := Lib.hid hr5
        clear hr5 HR hc0 hc1
        obtain ⟨q, hq⟩ : ∃ q, q = rsum (ls5) := ⟨_, rfl⟩
        have hln5 : n5 ≤ 2301 := by have := HR5.out.hl; have := HR5.out.hn; omega
        have hws := wsum_calls HR5.out.hu.w
        have hwl := wlen_calls HR5.out.hu.w
        obtain ⟨A5, c5, e5, _, _, hrd⟩ := HR5.out.hv.opens
        injection e5 with e6 e7 e8
        subst e6 e8
        have hrs := rsum_calls (n := n5) (c := cv5) HR5.out.hn hrd (by have := HR5.out.hn; omega)
        rw [← hq] at hws hrs
        rw [← HR5.out.hn] at hwl
        have Hws := Lib.hid hws
        have Hwl := Lib.hid hwl
        have Hrs := Lib.hid hrs
        clear hws hwl hrs hq hrd e7
        go_wp2_with fail
        refine Hws.out.mono ?_
        rintro e w9 ⟨rfl, rfl⟩
        go_wp2_with fail
        refine Hrs.out.mono ?_
        rintro e w9 ⟨rfl, rfl⟩
        go_wp2_with fail
        refine Hwl.out.mono ?_
        rintro e w9 ⟨rfl, rfl⟩
        go_wp2_with fail
        go_roundw
        case rel => exact ⟨k + 1, Av5, n5, cv5, ls5, u5, by omega, rfl, rfl, HR5.out⟩
        case measure => simp [intOf]; omega
      by_cases hz0 : z % 3 = 0
      · have hz1 : (z : Int).tmod 3 = 0 := by rw [Int.tmod_eq_emod_of_nonneg (by omega)]; omega
        have Hin := Lib.hid (inU_calls HR.out.hu y (by have := HR.out.hn; omega))
        go_wp2_with fail
        refine Hin.out.mono ?_
        clear Hin hc0 hc1
        rintro e w3 ⟨rfl, u3, hU3, ho3, hk3, hb3⟩
        obtain ⟨hv3, hp3, hb4, hs4⟩ := HR.out.win (k' := k) hU3 ho3 hk3 hb3
        have hc1 := (HC.out _ hb4).2
        have HU3 := Lib.hid hU3
        have HV3 := Lib.hid hv3
        have HP3 := Lib.hid hp3
        have HB4 := Lib.hid hb4
        have HS4 := Lib.hid hs4
        clear hU3 ho3 hk3 hb3 hv3 hp3 hb4 hs4
        have HV4 := Lib.hid (HV3.out.keptB ((Below.refl _ _).alloc (Nat.le_refl _) (.cells #[.int .u8 (y.toNat : Int)] 5)))
        have Hlit := Lib.hid (ReadB.litN w3 5 [.int .u8 (y.toNat : Int)] [y] w3.heap.size rfl rfl)
        go_wp2_with (at_builtin; refine wpList_appO _ rfl (.tmp 70) (.tmp 76) 22 rfl w1.heap.size 5 i0 Try.underlying22 Hi.out (.slice Av n cv) ls rfl HV4.out (w3.heap.size + 1) _ 1 1 [y] rfl rfl Hlit.out (by have := HR.out.hn; simp; omega) (by have := HS4.out; simp; omega) ?_; intro v4 w4 ho4 hg4 hor4 hb4; obtain ⟨Av5, n5, cv5, rfl, hr5⟩ := app_facts (k := k) Hww.out HR.out.hl HU3.out HP3.out HB4.out HS4.out ((Below.refl _ _).alloc (Nat.le_refl _) _) ho4 hg4 hor4 hb4; have HR5 := Lib.hid hr5; clear ho4 hg4 hor4 hb4 hr5 hc1 HV4 Hlit)
        try go_wp2_with fail
        go_meet
        exact ⟨Av5, n5, cv5, ls ++ [y], u3, rfl, HR5.out⟩
      · by_cases hz1 : z % 3 = 1
        · have hz2 : (z : Int).tmod 3 = 1 := by rw [Int.tmod_eq_emod_of_nonneg (by omega)]; omega
          by_cases hn0 : n = 0
          · have hl0 : ls = [] := List.eq_nil_of_length_eq_zero (by rw [← HR.out.hn]; exact hn0)
            subst hl0
            subst hn0
            have Hout := Lib.hid (out_none HR.out.hu.w)
            go_wp2_with fail
            refine Hout.out.mono ?_
            rintro e w3 ⟨rfl, rfl⟩
            have HR5 := Lib.hid HR.out.step
            clear HR Hout hc0 hc1

            try go_wp2_with fail
            go_meet
            exact ⟨Av, _, cv, [], u, rfl, HR5.out⟩
          · obtain ⟨x, t, rfl⟩ : ∃ x t, ls = x :: t := by
              cases ls with
              | nil => exact absurd HR.out.hn hn0
              | cons x t => exact ⟨x, t, rfl⟩
            have HN1 : Hid (n = t.length + 1) := Lib.hid HR.out.hn
            have gs : decide (0 < (n : Int)) = true := by rw [decide_eq_true_eq]; omega
            have gs2 : decide (0 < n) = true := by rw [decide_eq_true_eq]; omega
            have Hout := Lib.hid (outU_calls HR.out.hu (by have := HR.out.hn; rw [List.length_cons] at this; omega))
            go_wp2_with fail
            refine Hout.out.mono ?_
            clear Hout hc0 hc1
            rintro e w3 ⟨rfl, u3, hU3, ho3, hk3, hb3⟩
            obtain ⟨hv3, hp3, hb4, hs4⟩ := HR.out.win (k' := k) hU3 (.inl ho3) hk3 hb3
            have HU3 := Lib.hid hU3
            have HV3 := Lib.hid hv3
            have HP3 := Lib.hid hp3
            have HB4 := Lib.hid hb4
            have HS4 := Lib.hid hs4
            have HL : Hid (t.length ≤ a.length + k) := Lib.hid (by have := HR.out.hl; rw [List.length_cons] at this; omega)
            obtain ⟨A6, c6, e6, hcc, _, hrd⟩ := hv3.opens
            injection e6 with e7 e8 e9
            subst e7 e9
            obtain ⟨gb, ob, rfl, hgb, hcs⟩ := hrd (by simp)
            have hx := hcs 0 (by simp)
            simp only [Nat.add_zero, List.getD_cons_zero] at hx
            have hdr := hv3.drop 1 (by simp)
            rw [List.drop_succ_cons, List.drop_zero] at hdr
            have HNT : Hid (n - 1 = t.length) := Lib.hid (by have := HN1.out; omega)
            have z1 : (1 : Int) ≤ (n : Int) := by have := HN1.out; omega
            have z2 : (1 : Int) ≤ (cv : Int) := by rw [List.length_cons] at hcc; omega
            have z4 : 0 < n := by have := HN1.out; omega
            have z3 : (0 : Int) < (n : Int) := by have := HN1.out; omega
            clear hU3 ho3 hk3 hb3 hv3 hp3 hb4 hs4 hcc hrd hcs HR e8
            by_cases hcv : cv = 1
            · subst hcv
              rw [if_pos rfl] at hdr
              have HR5 : Hid (Rnd w w1 g a.length (k + 1) (some ⟨gb, ob, none⟩) (n - 1) (0) t u3 w3) := Lib.hid ⟨by have := HL.out; omega, HNT.out, HU3.out, hdr, ⟨HP3.out.pu, HP3.out.pv, HP3.out.pg, HP3.out.puv, HP3.out.plt⟩, HB4.out, HS4.out⟩
              clear hdr HNT

              try go_wp2_with fail
              go_meet
              exact ⟨some ⟨gb, ob, none⟩, _, 0, t, u3, rfl, HR5.out⟩
            · rw [if_neg hcv, Option.map_some, add_lit_] at hdr
              have HR5 : Hid (Rnd w w1 g a.length (k + 1) (some ⟨gb, ob + 1, none⟩) (n - 1) ((cv - 1)) t u3 w3) := Lib.hid ⟨by have := HL.out; omega, HNT.out, HU3.out, hdr, ⟨HP3.out.pu, HP3.out.pv, HP3.out.pg, HP3.out.puv, HP3.out.plt⟩, HB4.out, HS4.out⟩
              clear hdr HNT

              try go_wp2_with fail
              go_meet
              exact ⟨some ⟨gb, ob + 1, none⟩, _, (cv - 1), t, u3, rfl, HR5.out⟩
        · have hz2 : (z : Int).tmod 3 = 2 := by rw [Int.tmod_eq_emod_of_nonneg (by omega)]; omega
          by_cases hn0 : n = 0
          · have hl0 : ls = [] := List.eq_nil_of_length_eq_zero (by rw [← HR.out.hn]; exact hn0)
            subst hl0
            subst hn0
            have Hout := Lib.hid (roll_none HR.out.hu.w (y.toNat : Int))
            go_wp2_with fail
            refine Hout.out.mono ?_
            rintro e w3 ⟨rfl, rfl⟩
            have HR5 := Lib.hid HR.out.step
            clear HR Hout hc0 hc1

            try go_wp2_with fail
            go_meet
            exact ⟨Av, _, cv, [], u, rfl, HR5.out⟩
          · obtain ⟨x, t, rfl⟩ : ∃ x t, ls = x :: t := by
              cases ls with
              | nil => exact absurd HR.out.hn hn0
              | cons x t => exact ⟨x, t, rfl⟩
            have HN1 : Hid (n = t.length + 1) := Lib.hid HR.out.hn
            have gs : decide (0 < (n : Int)) = true := by rw [decide_eq_true_eq]; omega
            have gs2 : decide (0 < n) = true := by rw [decide_eq_true_eq]; omega
            have Hout := Lib.hid (rollU_calls HR.out.hu y (by have := HR.out.hn; rw [List.length_cons] at this; omega))
            go_wp2_with fail
            refine Hout.out.mono ?_
            clear Hout hc0 hc1
            rintro e w3 ⟨rfl, u3, hU3, ho3, hk3, hb3⟩
            obtain ⟨hv3, hp3, hb4, hs4⟩ := HR.out.win (k' := k) hU3 (ho3) hk3 hb3
            have HU3 := Lib.hid hU3
            have HV3 := Lib.hid hv3
            have HP3 := Lib.hid hp3
            have HB4 := Lib.hid hb4
            have HS4 := Lib.hid hs4
            have HL : Hid (t.length ≤ a.length + k) := Lib.hid (by have := HR.out.hl; rw [List.length_cons] at this; omega)
            obtain ⟨A6, c6, e6, hcc, _, hrd⟩ := hv3.opens
            injection e6 with e7 e8 e9
            subst e7 e9
            obtain ⟨gb, ob, rfl, hgb, hcs⟩ := hrd (by simp)
            have hx := hcs 0 (by simp)
            simp only [Nat.add_zero, List.getD_cons_zero] at hx
            have hdr := hv3.drop 1 (by simp)
            rw [List.drop_succ_cons, List.drop_zero] at hdr
            have HNT : Hid (n - 1 = t.length) := Lib.hid (by have := HN1.out; omega)
            have z1 : (1 : Int) ≤ (n : Int) := by have := HN1.out; omega
            have z2 : (1 : Int) ≤ (cv : Int) := by rw [List.length_cons] at hcc; omega
            have z4 : 0 < n := by have := HN1.out; omega
            have z3 : (0 : Int) < (n : Int) := by have := HN1.out; omega
            clear hU3 ho3 hk3 hb3 hv3 hp3 hb4 hs4 hcc hrd hcs HR e8
            by_cases hcv : cv = 1
            · subst hcv
              rw [if_pos rfl] at hdr
              have Hdr := Lib.hid hdr
              have hc1 := (HC.out _ HB4.out).2
              clear hdr
              go_wp2_with fail
              refine CanF.region 1000 (.op 1 2 (.op 2 2 (.op 4 2 (.op 5 2 (.op 6 2 (.op 7 2 (.op 8 1 (.fork (.op 0 0 (.fork (.op 3 0 (.op 9 0 (.op 10 0 (.op 11 2 (.nil))))) (.op 9 0 (.op 3 0 (.op 10 0 (.op 11 2 (.nil))))))) (.op 9 0 (.op 0 0 (.op 3 0 (.op 10 0 (.op 11 2 (.nil)))))))))))))) (by kernel_rfl) (by kernel_rfl) ?_
              have hbd := (Below.refl w3.heap.size w3).drew
              have HUd : Hid (IsWu w3.drew w.heap.size g u3 (t ++ [y])) := Lib.hid (HU3.out.below hbd)
              have HPd : Hid (Parted w3.drew g u3 _) := Lib.hid ⟨HP3.out.pu, HP3.out.pv, HP3.out.pg, HP3.out.puv, HP3.out.plt⟩
              have HBd : Hid (Below w.heap.size w w3.drew) := Lib.hid HB4.out.drew
              have HSd : Hid (w1.heap.size ≤ w3.drew.heap.size) := HS4
              have HDd : Hid (OwnO w3.drew w1.heap.size 5 (.slice (some ⟨gb, ob, none⟩) (n - 1) (0)) t) := Lib.hid (Hdr.out.keptB hbd)
              have HcW : Hid (w3.drew.cell? ⟨mb, mo + k * 2 + 1, none⟩ = some (.int .u8 (y.toNat : Int))) := Lib.hid hc1
              have HmbW : Hid (mb < w3.drew.heap.size) := Lib.hid (Nat.lt_of_lt_of_le hmb HB4.out.size)
              clear HU3 HP3 HB4 HS4 Hdr hx hgb hc1 hbd HV3
              generalize w3.drew = W at *
              have HU3 := HUd
              have HP3 := HPd
              have HB4 := HBd
              have HS4 := HSd
              obtain ⟨A6, c6, e6, hcc6, hcm6, hrd⟩ := HDd.out.opens
              injection e6 with e7 e8 e9
              subst e7 e9
              have Hrd := Lib.hid hrd
              clear hrd e8 HUd HPd HBd HSd
              repeat (first | (refine CanT.skip rfl ?_ (fun K hK => ?_); (focus (go_simp; done)); go_simp; refine hK _ ?_; clear hK K) | (refine CanT.pur rfl ?_ ?_; (focus (go_simp; done)); refine ⟨?_, ?_, ?_⟩; rotate_left; (focus (intro w'; go_simp; rfl)); (focus (intro K hK; go_simp; refine hK _ ?_; clear hK K))) | (refine CanF.cell rfl ?_ (.int .u8 (y.toNat : Int)) (.int .u8 (y.toNat : Int)) ⟨mb, mo + k * 2 + 1, none⟩ (fun w' h => none_below h) HcW.out HmbW.out ?_ (fun K hK => ?_); (focus (go_simp; done)); (focus (intro w' hc'; go_simp; (try rfl))); go_simp; refine hK _ ?_; clear hK K))
              refine CanT.both ?_ ?_
              · refine CanT.imp rfl (fun J hJ => ?_)
                go_simp
                refine hJ.out _ _ (only_of_below ((Below.refl _ _).alloc (Nat.le_refl _) (.cells #[] 5)) none) ?_
                clear hJ J
                refine CanT.both ?_ ?_
                · have HE := Lib.hid (OwnB.lit0 W 5 W.heap.size W.heap.size rfl (Nat.le_refl _))
                  refine CanT.imp rfl (fun J hJ => ?_)
                  refine CanF.step_appBg _ ?_ (.tmp 50) (.tmp 52) 22 rfl (W.heap.size) 5 i0 Try.underlying22 Hi.out _ ([]) rfl (HE.out) (W.heap.size) _ _ _ (t) rfl (by first | rfl | exact HNT.out) (Hrd.out.below ((Below.refl _ _).alloc (Nat.le_refl _) _)) (by have := HNT.out; simp; omega) (by simp) ?_
                  focus (go_simp; done)
                  intro v8 w8 ho8 _ _ hb8
                  rw [List.nil_append] at ho8
                  obtain ⟨A8, c8, rfl, i1, i2, i3, i4⟩ := ho8.opens
                  have HB8 : Hid (Below W.heap.size W w8) := Lib.hid (((Below.refl _ _).alloc (Nat.le_refl _) _).trans hb8)
                  have HO8 := Lib.hid (ho8.alloc (.cells #[.int .u8 (y.toNat : Int)] 5))
                  have HB8a := Lib.hid (HB8.out.alloc HB8.out.size (.cells #[.int .u8 (y.toNat : Int)] 5))
                  have Hlit := Lib.hid (ReadB.litN w8 5 [.int .u8 (y.toNat : Int)] [y] w8.heap.size rfl rfl)
                  clear ho8 hb8 i3 i4
                  go_simp
                  refine hJ.out _ _ (only_of_below HB8.out none) ?_
                  clear hJ J
                  repeat (first | (refine CanT.skip rfl ?_ (fun K hK => ?_); (focus (go_simp; done)); go_simp; refine hK _ ?_; clear hK K) | (refine CanT.pur rfl ?_ ?_; (focus (go_simp; done)); refine ⟨?_, ?_, ?_⟩; rotate_left; (focus (intro w'; go_simp; rfl)); (focus (intro K hK; go_simp; refine hK _ ?_; clear hK K))))
                  refine CanT.imp rfl (fun J hJ => ?_)
                  go_simp
                  refine hJ.out _ _ (only_of_below HB8a.out none) ?_
                  clear hJ J
                  refine CanT.imp rfl (fun J hJ => ?_)
                  refine CanF.step_appBg _ ?_ (.tmp 53) (.tmp 59) 22 rfl (W.heap.size) 5 i0 Try.underlying22 Hi.out _ (t) rfl (HO8.out) (w8.heap.size + 1) _ _ _ ([y]) rfl (rfl) (Hlit.out) (by have := HNT.out; simp; omega) (by have := HB8a.out.size; simp at this ⊢; omega) ?_
                  focus (go_simp; done)
                  intro v9 w9 ho9 _ _ hb9
                  have HB9 : Hid (Below W.heap.size W w9) := Lib.hid (HB8a.out.trans hb9)
                  go_simp
                  refine hJ.out _ _ (only_of_below HB9.out none) ?_
                  clear hJ J hb9
                  repeat (first | (refine CanT.skip rfl ?_ (fun K hK => ?_); (focus (go_simp; done)); go_simp; refine hK _ ?_; clear hK K) | (refine CanT.pur rfl ?_ ?_; (focus (go_simp; done)); refine ⟨?_, ?_, ?_⟩; rotate_left; (focus (intro w'; go_simp; rfl)); (focus (intro K hK; go_simp; refine hK _ ?_; clear hK K))))
                  refine CanT.done ?_
                  obtain ⟨Av5, n5, cv5, rfl, hr5⟩ := new_facts (k := k) Hww.out HL.out HU3.out HP3.out HB4.out HS4.out ho9 (Nat.le_refl _) HB9.out
                  have HR5 := Lib.hid hr5
                  clear ho9 hr5

                  try go_wp2_with fail
                  go_meet
                  exact ⟨Av5, n5, cv5, t ++ [y], u3, rfl, HR5.out⟩
                · have HE := Lib.hid ((OwnB.lit0 W 5 W.heap.size W.heap.size rfl (Nat.le_refl _)).alloc (.cells #[.int .u8 (y.toNat : Int)] 5))
                  have HBa : Hid (Below W.heap.size W ((W.alloc (.cells #[] 5)).alloc (.cells #[.int .u8 (y.toNat : Int)] 5))) := Lib.hid (((Below.refl _ _).alloc (Nat.le_refl _) _).alloc (by simp) _)
                  have Hlit := Lib.hid (ReadB.litN (W.alloc (.cells #[] 5)) 5 [.int .u8 (y.toNat : Int)] [y] (W.alloc (.cells #[] 5)).heap.size rfl rfl)
                  refine CanT.imp rfl (fun J hJ => ?_)
                  go_simp
                  refine hJ.out _ _ (only_of_below HBa.out none) ?_
                  clear hJ J
                  refine CanT.imp rfl (fun J hJ => ?_)
                  refine CanF.step_appBg _ ?_ (.tmp 50) (.tmp 52) 22 rfl (W.heap.size) 5 i0 Try.underlying22 Hi.out _ ([]) rfl (HE.out) (W.heap.size) _ _ _ (t) rfl (by first | rfl | exact HNT.out) (Hrd.out.below HBa.out) (by have := HNT.out; simp; omega) (HBa.out.size) ?_
                  focus (go_simp; done)
                  intro v8 w8 ho8 hg8 _ hb8
                  rw [List.nil_append] at ho8
                  have hlit8 := read_other Hlit.out (row := some W.heap.size) hg8 (by simp) (by simp)
                  have Hlit8 : Hid (ReadB w8 w8.heap.size (some ⟨W.heap.size + 1, 0, none⟩) [y]) := Lib.hid (by simpa using hlit8)
                  clear hlit8
                  obtain ⟨A8, c8, rfl, i1, i2, i3, i4⟩ := ho8.opens
                  have HB8 : Hid (Below W.heap.size W w8) := Lib.hid (HBa.out.trans hb8)
                  have HO8 := Lib.hid ho8
                  clear ho8 hb8 hg8 i3 i4
                  go_simp
                  refine hJ.out _ _ (only_of_below HB8.out none) ?_
                  clear hJ J
                  refine CanT.imp rfl (fun J hJ => ?_)
                  refine CanF.step_appBg _ ?_ (.tmp 53) (.tmp 59) 22 rfl (W.heap.size) 5 i0 Try.underlying22 Hi.out _ (t) rfl (HO8.out) (w8.heap.size) _ _ _ ([y]) rfl (rfl) (Hlit8.out) (by have := HNT.out; simp; omega) (HB8.out.size) ?_
                  focus (go_simp; done)
                  intro v9 w9 ho9 _ _ hb9
                  have HB9 : Hid (Below W.heap.size W w9) := Lib.hid (HB8.out.trans hb9)
                  go_simp
                  refine hJ.out _ _ (only_of_below HB9.out none) ?_
                  clear hJ J hb9
                  repeat (first | (refine CanT.skip rfl ?_ (fun K hK => ?_); (focus (go_simp; done)); go_simp; refine hK _ ?_; clear hK K) | (refine CanT.pur rfl ?_ ?_; (focus (go_simp; done)); refine ⟨?_, ?_, ?_⟩; rotate_left; (focus (intro w'; go_simp; rfl)); (focus (intro K hK; go_simp; refine hK _ ?_; clear hK K))))
                  refine CanT.done ?_
                  obtain ⟨Av5, n5, cv5, rfl, hr5⟩ := new_facts (k := k) Hww.out HL.out HU3.out HP3.out HB4.out HS4.out ho9 (Nat.le_refl _) HB9.out
                  have HR5 := Lib.hid hr5
                  clear ho9 hr5

                  try go_wp2_with fail
                  go_meet
                  exact ⟨Av5, n5, cv5, t ++ [y], u3, rfl, HR5.out⟩
              · refine CanT.imp rfl (fun J hJ => ?_)
                go_simp
                refine hJ.out _ _ (only_of_below ((Below.refl _ _).alloc (Nat.le_refl _) (.cells #[.int .u8 (y.toNat : Int)] 5)) none) ?_
                clear hJ J
                obtain ⟨Wl, hWl⟩ : ∃ Wl, Wl = W.alloc (.cells #[.int .u8 (y.toNat : Int)] 5) := ⟨_, rfl⟩
                have HBl : Hid (Below W.heap.size W Wl) := Lib.hid (by rw [hWl]; exact (Below.refl _ _).alloc (Nat.le_refl _) _)
                have hls : Wl.heap.size = W.heap.size + 1 := by rw [hWl]; simp
                have Hlit : Hid (ReadB Wl Wl.heap.size (some ⟨W.heap.size, 0, none⟩) [y]) := Lib.hid (by rw [hls, hWl]; exact ReadB.litN W 5 [.int .u8 (y.toNat : Int)] [y] W.heap.size rfl rfl)
                rw [← hWl]
                have Hls := Lib.hid hls
                clear hWl hls
                have HBa : Hid (Below W.heap.size W (Wl.alloc (.cells #[] 5))) := Lib.hid (HBl.out.alloc HBl.out.size _)
                have HE := Lib.hid (OwnB.lit0 Wl 5 Wl.heap.size Wl.heap.size rfl (Nat.le_refl _))
                refine CanT.imp rfl (fun J hJ => ?_)
                go_simp
                refine hJ.out _ _ (only_of_below HBa.out none) ?_
                clear hJ J
                refine CanT.imp rfl (fun J hJ => ?_)
                refine CanF.step_appBg _ ?_ (.tmp 50) (.tmp 52) 22 rfl (Wl.heap.size) 5 i0 Try.underlying22 Hi.out _ ([]) rfl (HE.out) (W.heap.size) _ _ _ (t) rfl (by first | rfl | exact HNT.out) (Hrd.out.below HBa.out) (by have := HNT.out; simp; omega) (by simp) ?_
                focus (go_simp; done)
                intro v8 w8 ho8 _ _ hb8
                rw [List.nil_append] at ho8
                have Hlit8 := Lib.hid (Hlit.out.below (((Below.refl _ _).alloc (Nat.le_refl _) _).trans hb8))
                obtain ⟨A8, c8, rfl, i1, i2, i3, i4⟩ := ho8.opens
                have HB8 : Hid (Below W.heap.size W w8) := Lib.hid (HBa.out.trans (hb8.mono HBl.out.size))
                have Hsz8 : Hid (Wl.heap.size ≤ w8.heap.size) := Lib.hid (by have := hb8.size; simp at this; omega)
                have HO8 := Lib.hid ho8
                clear ho8 hb8 i3 i4
                go_simp
                refine hJ.out _ _ (only_of_below HB8.out none) ?_
                clear hJ J
                refine CanT.imp rfl (fun J hJ => ?_)
                refine CanF.step_appBg _ ?_ (.tmp 53) (.tmp 59) 22 rfl (Wl.heap.size) 5 i0 Try.underlying22 Hi.out _ (t) rfl (HO8.out) (Wl.heap.size) _ _ _ ([y]) rfl (rfl) (Hlit8.out) (by have := HNT.out; simp; omega) (Hsz8.out) ?_
                focus (go_simp; done)
                intro v9 w9 ho9 _ _ hb9
                have HB9 : Hid (Below W.heap.size W w9) := Lib.hid (HB8.out.trans (hb9.mono HBl.out.size))
                go_simp
                refine hJ.out _ _ (only_of_below HB9.out none) ?_
                clear hJ J hb9
                repeat (first | (refine CanT.skip rfl ?_ (fun K hK => ?_); (focus (go_simp; done)); go_simp; refine hK _ ?_; clear hK K) | (refine CanT.pur rfl ?_ ?_; (focus (go_simp; done)); refine ⟨?_, ?_, ?_⟩; rotate_left; (focus (intro w'; go_simp; rfl)); (focus (intro K hK; go_simp; refine hK _ ?_; clear hK K))))
                refine CanT.done ?_
                obtain ⟨Av5, n5, cv5, rfl, hr5⟩ := new_facts (k := k) Hww.out HL.out HU3.out HP3.out HB4.out HS4.out ho9 HBl.out.size HB9.out
                have HR5 := Lib.hid hr5
                clear ho9 hr5

                try go_wp2_with fail
                go_meet
                exact ⟨Av5, n5, cv5, t ++ [y], u3, rfl, HR5.out⟩
            · rw [if_neg hcv, Option.map_some, add_lit_] at hdr
              have Hdr := Lib.hid hdr
              have hc1 := (HC.out _ HB4.out).2
              clear hdr
              go_wp2_with fail
              refine CanF.region 1000 (.op 1 2 (.op 2 2 (.op 4 2 (.op 5 2 (.op 6 2 (.op 7 2 (.op 8 1 (.fork (.op 0 0 (.fork (.op 3 0 (.op 9 0 (.op 10 0 (.op 11 2 (.nil))))) (.op 9 0 (.op 3 0 (.op 10 0 (.op 11 2 (.nil))))))) (.op 9 0 (.op 0 0 (.op 3 0 (.op 10 0 (.op 11 2 (.nil)))))))))))))) (by kernel_rfl) (by kernel_rfl) ?_
              have hbd := (Below.refl w3.heap.size w3).drew
              have HUd : Hid (IsWu w3.drew w.heap.size g u3 (t ++ [y])) := Lib.hid (HU3.out.below hbd)
              have HPd : Hid (Parted w3.drew g u3 _) := Lib.hid ⟨HP3.out.pu, HP3.out.pv, HP3.out.pg, HP3.out.puv, HP3.out.plt⟩
              have HBd : Hid (Below w.heap.size w w3.drew) := Lib.hid HB4.out.drew
              have HSd : Hid (w1.heap.size ≤ w3.drew.heap.size) := HS4
              have HDd : Hid (OwnO w3.drew w1.heap.size 5 (.slice (some ⟨gb, ob + 1, none⟩) (n - 1) ((cv - 1))) t) := Lib.hid (Hdr.out.keptB hbd)
              have HcW : Hid (w3.drew.cell? ⟨mb, mo + k * 2 + 1, none⟩ = some (.int .u8 (y.toNat : Int))) := Lib.hid hc1
              have HmbW : Hid (mb < w3.drew.heap.size) := Lib.hid (Nat.lt_of_lt_of_le hmb HB4.out.size)
              clear HU3 HP3 HB4 HS4 Hdr hx hgb hc1 hbd HV3
              generalize w3.drew = W at *
              have HU3 := HUd
              have HP3 := HPd
              have HB4 := HBd
              have HS4 := HSd
              obtain ⟨A6, c6, e6, hcc6, hcm6, hrd⟩ := HDd.out.opens
              injection e6 with e7 e8 e9
              subst e7 e9
              have Hrd := Lib.hid hrd
              clear hrd e8 HUd HPd HBd HSd
              repeat (first | (refine CanT.skip rfl ?_ (fun K hK => ?_); (focus (go_simp; done)); go_simp; refine hK _ ?_; clear hK K) | (refine CanT.pur rfl ?_ ?_; (focus (go_simp; done)); refine ⟨?_, ?_, ?_⟩; rotate_left; (focus (intro w'; go_simp; rfl)); (focus (intro K hK; go_simp; refine hK _ ?_; clear hK K))) | (refine CanF.cell rfl ?_ (.int .u8 (y.toNat : Int)) (.int .u8 (y.toNat : Int)) ⟨mb, mo + k * 2 + 1, none⟩ (fun w' h => none_below h) HcW.out HmbW.out ?_ (fun K hK => ?_); (focus (go_simp; done)); (focus (intro w' hc'; go_simp; (try rfl))); go_simp; refine hK _ ?_; clear hK K))
              refine CanT.both ?_ ?_
              · refine CanT.imp rfl (fun J hJ => ?_)
                go_simp
                refine hJ.out _ _ (only_of_below ((Below.refl _ _).alloc (Nat.le_refl _) (.cells #[] 5)) none) ?_
                clear hJ J
                refine CanT.both ?_ ?_
                · have HE := Lib.hid (OwnB.lit0 W 5 W.heap.size W.heap.size rfl (Nat.le_refl _))
                  refine CanT.imp rfl (fun J hJ => ?_)
                  refine CanF.step_appBg _ ?_ (.tmp 50) (.tmp 52) 22 rfl (W.heap.size) 5 i0 Try.underlying22 Hi.out _ ([]) rfl (HE.out) (W.heap.size) _ _ _ (t) rfl (by first | rfl | exact HNT.out) (Hrd.out.below ((Below.refl _ _).alloc (Nat.le_refl _) _)) (by have := HNT.out; simp; omega) (by simp) ?_
                  focus (go_simp; done)
                  intro v8 w8 ho8 _ _ hb8
                  rw [List.nil_append] at ho8
                  obtain ⟨A8, c8, rfl, i1, i2, i3, i4⟩ := ho8.opens
                  have HB8 : Hid (Below W.heap.size W w8) := Lib.hid (((Below.refl _ _).alloc (Nat.le_refl _) _).trans hb8)
                  have HO8 := Lib.hid (ho8.alloc (.cells #[.int .u8 (y.toNat : Int)] 5))
                  have HB8a := Lib.hid (HB8.out.alloc HB8.out.size (.cells #[.int .u8 (y.toNat : Int)] 5))
                  have Hlit := Lib.hid (ReadB.litN w8 5 [.int .u8 (y.toNat : Int)] [y] w8.heap.size rfl rfl)
                  clear ho8 hb8 i3 i4
                  go_simp
                  refine hJ.out _ _ (only_of_below HB8.out none) ?_
                  clear hJ J
                  repeat (first | (refine CanT.skip rfl ?_ (fun K hK => ?_); (focus (go_simp; done)); go_simp; refine hK _ ?_; clear hK K) | (refine CanT.pur rfl ?_ ?_; (focus (go_simp; done)); refine ⟨?_, ?_, ?_⟩; rotate_left; (focus (intro w'; go_simp; rfl)); (focus (intro K hK; go_simp; refine hK _ ?_; clear hK K))))
                  refine CanT.imp rfl (fun J hJ => ?_)
                  go_simp
                  refine hJ.out _ _ (only_of_below HB8a.out none) ?_
                  clear hJ J
                  refine CanT.imp rfl (fun J hJ => ?_)
                  refine CanF.step_appBg _ ?_ (.tmp 53) (.tmp 59) 22 rfl (W.heap.size) 5 i0 Try.underlying22 Hi.out _ (t) rfl (HO8.out) (w8.heap.size + 1) _ _ _ ([y]) rfl (rfl) (Hlit.out) (by have := HNT.out; simp; omega) (by have := HB8a.out.size; simp at this ⊢; omega) ?_
                  focus (go_simp; done)
                  intro v9 w9 ho9 _ _ hb9
                  have HB9 : Hid (Below W.heap.size W w9) := Lib.hid (HB8a.out.trans hb9)
                  go_simp
                  refine hJ.out _ _ (only_of_below HB9.out none) ?_
                  clear hJ J hb9
                  repeat (first | (refine CanT.skip rfl ?_ (fun K hK => ?_); (focus (go_simp; done)); go_simp; refine hK _ ?_; clear hK K) | (refine CanT.pur rfl ?_ ?_; (focus (go_simp; done)); refine ⟨?_, ?_, ?_⟩; rotate_left; (focus (intro w'; go_simp; rfl)); (focus (intro K hK; go_simp; refine hK _ ?_; clear hK K))))
                  refine CanT.done ?_
                  obtain ⟨Av5, n5, cv5, rfl, hr5⟩ := new_facts (k := k) Hww.out HL.out HU3.out HP3.out HB4.out HS4.out ho9 (Nat.le_refl _) HB9.out
                  have HR5 := Lib.hid hr5
                  clear ho9 hr5

                  try go_wp2_with fail
                  go_meet
                  exact ⟨Av5, n5, cv5, t ++ [y], u3, rfl, HR5.out⟩
                · have HE := Lib.hid ((OwnB.lit0 W 5 W.heap.size W.heap.size rfl (Nat.le_refl _)).alloc (.cells #[.int .u8 (y.toNat : Int)] 5))
                  have HBa : Hid (Below W.heap.size W ((W.alloc (.cells #[] 5)).alloc (.cells #[.int .u8 (y.toNat : Int)] 5))) := Lib.hid (((Below.refl _ _).alloc (Nat.le_refl _) _).alloc (by simp) _)
                  have Hlit := Lib.hid (ReadB.litN (W.alloc (.cells #[] 5)) 5 [.int .u8 (y.toNat : Int)] [y] (W.alloc (.cells #[] 5)).heap.size rfl rfl)
                  refine CanT.imp rfl (fun J hJ => ?_)
                  go_simp
                  refine hJ.out _ _ (only_of_below HBa.out none) ?_
                  clear hJ J
                  refine CanT.imp rfl (fun J hJ => ?_)
                  refine CanF.step_appBg _ ?_ (.tmp 50) (.tmp 52) 22 rfl (W.heap.size) 5 i0 Try.underlying22 Hi.out _ ([]) rfl (HE.out) (W.heap.size) _ _ _ (t) rfl (by first | rfl | exact HNT.out) (Hrd.out.below HBa.out) (by have := HNT.out; simp; omega) (HBa.out.size) ?_
                  focus (go_simp; done)
                  intro v8 w8 ho8 hg8 _ hb8
                  rw [List.nil_append] at ho8
                  have hlit8 := read_other Hlit.out (row := some W.heap.size) hg8 (by simp) (by simp)
                  have Hlit8 : Hid (ReadB w8 w8.heap.size (some ⟨W.heap.size + 1, 0, none⟩) [y]) := Lib.hid (by simpa using hlit8)
                  clear hlit8
                  obtain ⟨A8, c8, rfl, i1, i2, i3, i4⟩ := ho8.opens
                  have HB8 : Hid (Below W.heap.size W w8) := Lib.hid (HBa.out.trans hb8)
                  have HO8 := Lib.hid ho8
                  clear ho8 hb8 hg8 i3 i4
                  go_simp
                  refine hJ.out _ _ (only_of_below HB8.out none) ?_
                  clear hJ J
                  refine CanT.imp rfl (fun J hJ => ?_)
                  refine CanF.step_appBg _ ?_ (.tmp 53) (.tmp 59) 22 rfl (W.heap.size) 5 i0 Try.underlying22 Hi.out _ (t) rfl (HO8.out) (w8.heap.size) _ _ _ ([y]) rfl (rfl) (Hlit8.out) (by have := HNT.out; simp; omega) (HB8.out.size) ?_
                  focus (go_simp; done)
                  intro v9 w9 ho9 _ _ hb9
                  have HB9 : Hid (Below W.heap.size W w9) := Lib.hid (HB8.out.trans hb9)
                  go_simp
                  refine hJ.out _ _ (only_of_below HB9.out none) ?_
                  clear hJ J hb9
                  repeat (first | (refine CanT.skip rfl ?_ (fun K hK => ?_); (focus (go_simp; done)); go_simp; refine hK _ ?_; clear hK K) | (refine CanT.pur rfl ?_ ?_; (focus (go_simp; done)); refine ⟨?_, ?_, ?_⟩; rotate_left; (focus (intro w'; go_simp; rfl)); (focus (intro K hK; go_simp; refine hK _ ?_; clear hK K))))
                  refine CanT.done ?_
                  obtain ⟨Av5, n5, cv5, rfl, hr5⟩ := new_facts (k := k) Hww.out HL.out HU3.out HP3.out HB4.out HS4.out ho9 (Nat.le_refl _) HB9.out
                  have HR5 := Lib.hid hr5
                  clear ho9 hr5

                  try go_wp2_with fail
                  go_meet
                  exact ⟨Av5, n5, cv5, t ++ [y], u3, rfl, HR5.out⟩
              · refine CanT.imp rfl (fun J hJ => ?_)
                go_simp
                refine hJ.out _ _ (only_of_below ((Below.refl _ _).alloc (Nat.le_refl _) (.cells #[.int .u8 (y.toNat : Int)] 5)) none) ?_
                clear hJ J
                obtain ⟨Wl, hWl⟩ : ∃ Wl, Wl = W.alloc (.cells #[.int .u8 (y.toNat : Int)] 5) := ⟨_, rfl⟩
                have HBl : Hid (Below W.heap.size W Wl) := Lib.hid (by rw [hWl]; exact (Below.refl _ _).alloc (Nat.le_refl _) _)
                have hls : Wl.heap.size = W.heap.size + 1 := by rw [hWl]; simp
                have Hlit : Hid (ReadB Wl Wl.heap.size (some ⟨W.heap.size, 0, none⟩) [y]) := Lib.hid (by rw [hls, hWl]; exact ReadB.litN W 5 [.int .u8 (y.toNat : Int)] [y] W.heap.size rfl rfl)
                rw [← hWl]
                have Hls := Lib.hid hls
                clear hWl hls
                have HBa : Hid (Below W.heap.size W (Wl.alloc (.cells #[] 5))) := Lib.hid (HBl.out.alloc HBl.out.size _)
                have HE := Lib.hid (OwnB.lit0 Wl 5 Wl.heap.size Wl.heap.size rfl (Nat.le_refl _))
                refine CanT.imp rfl (fun J hJ => ?_)
                go_simp
                refine hJ.out _ _ (only_of_below HBa.out none) ?_
                clear hJ J
                refine CanT.imp rfl (fun J hJ => ?_)
                refine CanF.step_appBg _ ?_ (.tmp 50) (.tmp 52) 22 rfl (Wl.heap.size) 5 i0 Try.underlying22 Hi.out _ ([]) rfl (HE.out) (W.heap.size) _ _ _ (t) rfl (by first | rfl | exact HNT.out) (Hrd.out.below HBa.out) (by have := HNT.out; simp; omega) (by simp) ?_
                focus (go_simp; done)
                intro v8 w8 ho8 _ _ hb8
                rw [List.nil_append] at ho8
                have Hlit8 := Lib.hid (Hlit.out.below (((Below.refl _ _).alloc (Nat.le_refl _) _).trans hb8))
                obtain ⟨A8, c8, rfl, i1, i2, i3, i4⟩ := ho8.opens
                have HB8 : Hid (Below W.heap.size W w8) := Lib.hid (HBa.out.trans (hb8.mono HBl.out.size))
                have Hsz8 : Hid (Wl.heap.size ≤ w8.heap.size) := Lib.hid (by have := hb8.size; simp at this; omega)
                have HO8 := Lib.hid ho8
                clear ho8 hb8 i3 i4
                go_simp
                refine hJ.out _ _ (only_of_below HB8.out none) ?_
                clear hJ J
                refine CanT.imp rfl (fun J hJ => ?_)
                refine CanF.step_appBg _ ?_ (.tmp 53) (.tmp 59) 22 rfl (Wl.heap.size) 5 i0 Try.underlying22 Hi.out _ (t) rfl (HO8.out) (Wl.heap.size) _ _ _ ([y]) rfl (rfl) (Hlit8.out) (by have := HNT.out; simp; omega) (Hsz8.out) ?_
                focus (go_simp; done)
                intro v9 w9 ho9 _ _ hb9
                have HB9 : Hid (Below W.heap.size W w9) := Lib.hid (HB8.out.trans (hb9.mono HBl.out.size))
                go_simp
                refine hJ.out _ _ (only_of_below HB9.out none) ?_
                clear hJ J hb9
                repeat (first | (refine CanT.skip rfl ?_ (fun K hK => ?_); (focus (go_simp; done)); go_simp; refine hK _ ?_; clear hK K) | (refine CanT.pur rfl ?_ ?_; (focus (go_simp; done)); refine ⟨?_, ?_, ?_⟩; rotate_left; (focus (intro w'; go_simp; rfl)); (focus (intro K hK; go_simp; refine hK _ ?_; clear hK K))))
                refine CanT.done ?_
                obtain ⟨Av5, n5, cv5, rfl, hr5⟩ := new_facts (k := k) Hww.out HL.out HU3.out HP3.out HB4.out HS4.out ho9 HBl.out.size HB9.out
                have HR5 := Lib.hid hr5
                clear ho9 hr5

                try go_wp2_with fail
                go_meet
                exact ⟨Av5, n5, cv5, t ++ [y], u3, rfl, HR5.out⟩
    · go_wp2_with fail
      refine CanF.region 1000 (.op 0 2 (.op 1 2 (.op 2 2 (.op 3 2 (.op 6 2 (.op 7 1 (.op 4 0 (.op 5 1 (.op 8 2 (.op 9 2 (.op 10 2 (.op 11 0 (.op 12 2 (.op 13 2 (.nil))))))))))))))) (by kernel_rfl) (by kernel_rfl) ?_
      have hbd := (Below.refl wr.heap.size wr).drew
      obtain ⟨A6, c6, e6, _, _, hrd⟩ := HR.out.hv.opens
      injection e6 with e7 e8 e9
      subst e7 e9
      have Hrd : Hid (ReadB wr.drew wr.drew.heap.size Av ls) := Lib.hid (hrd.below hbd)
      have HUd : Hid (IsWu wr.drew w.heap.size g u ls) := Lib.hid (HR.out.hu.below hbd)
      have HBd : Hid (Below w.heap.size w wr.drew) := Lib.hid HR.out.hb.drew
      have HN : Hid (n = ls.length) := Lib.hid HR.out.hn
      clear HR hrd hbd e8
      generalize wr.drew = W at *
      repeat (first | (refine CanT.skip rfl ?_ (fun K hK => ?_); (focus (go_simp; done)); go_simp; refine hK _ ?_; clear hK K) | (refine CanT.pur rfl ?_ ?_; (focus (go_simp; done)); refine ⟨?_, ?_, ?_⟩; rotate_left; (focus (intro w'; go_simp; rfl)); (focus (intro K hK; go_simp; refine hK _ ?_; clear hK K))))
      refine CanF.strF rfl ?_ 22 9 5 _ rfl Try.underlying22 Try.underlying5 Try.underlying9 Av _ cv (ls) rfl (HN.out) (fun w' h => CanF.none_read Hrd.out h) (fun K hK => ?_); (focus (go_simp; done)); go_simp; refine hK _ ?_; clear hK K
      repeat (first | (refine CanT.skip rfl ?_ (fun K hK => ?_); (focus (go_simp; done)); go_simp; refine hK _ ?_; clear hK K) | (refine CanT.pur rfl ?_ ?_; (focus (go_simp; done)); refine ⟨?_, ?_, ?_⟩; rotate_left; (focus (intro w'; go_simp; rfl)); (focus (intro K hK; go_simp; refine hK _ ?_; clear hK K))))
      refine CanT.impF rfl (fun J hJ => ?_)
      go_simp
      refine (bytes_calls HUd.out.w (by have := HN.out; omega)).mono ?_
      rintro e w6 ⟨v6, rfl, ho6, hb6⟩
      obtain ⟨A6, c6, rfl, _, _, q6, _⟩ := ho6.opens
      have Q6 := Lib.hid q6
      have HB6 := Lib.hid (HBd.out.trans (hb6.mono HBd.out.size))
      have hch : ∀ w', w6.grownBy w' none → W.grownBy w' none := fun w' h => only_trans (only_of_below hb6 none) h
      go_simp
      refine hJ.out (fun w' => w6.grownBy w' none) _ _ hch (World.grownBy.refl _ _) ?_
      clear hJ J hch ho6 hb6 q6
      repeat (first | (refine CanT.skip rfl ?_ (fun K hK => ?_); (focus (go_simp; done)); go_simp; refine hK _ ?_; clear hK K) | (refine CanT.pur rfl ?_ ?_; (focus (go_simp; done)); refine ⟨?_, ?_, ?_⟩; rotate_left; (focus (intro w'; go_simp; rfl)); (focus (intro K hK; go_simp; refine hK _ ?_; clear hK K))))
      refine CanF.strF rfl ?_ 22 9 5 _ rfl Try.underlying22 Try.underlying5 Try.underlying9 A6 _ c6 (ls) rfl (rfl) (fun w' h => CanF.none_read Q6.out h) (fun K hK => ?_); (focus (go_simp; done)); go_simp; refine hK _ ?_; clear hK K
      repeat (first | (refine CanT.skip rfl ?_ (fun K hK => ?_); (focus (go_simp; done)); go_simp; refine hK _ ?_; clear hK K) | (refine CanT.pur rfl ?_ ?_; (focus (go_simp; done)); refine ⟨?_, ?_, ?_⟩; rotate_left; (focus (intro w'; go_simp; rfl)); (focus (intro K hK; go_simp; refine hK _ ?_; clear hK K))))
      refine CanT.imp rfl (fun J hJ => ?_)
      go_simp
      refine (awake_calls w6).mono ?_
      rintro e w7 ⟨rfl, hb7⟩
      have HB7 := Lib.hid (HB6.out.trans (hb7.mono HB6.out.size))
      go_simp
      refine hJ.out _ _ (only_of_below hb7 none) ?_
      clear hJ J hb7
      repeat (first | (refine CanT.skip rfl ?_ (fun K hK => ?_); (focus (go_simp; done)); go_simp; refine hK _ ?_; clear hK K) | (refine CanT.pur rfl ?_ ?_; (focus (go_simp; done)); refine ⟨?_, ?_, ?_⟩; rotate_left; (focus (intro w'; go_simp; rfl)); (focus (intro K hK; go_simp; refine hK _ ?_; clear hK K))))
      refine CanT.done ?_
      go_wp2_with fail
      go_ret
      exact ⟨rfl, HB7.out⟩
end Ro
end Go.Proofs.Ytcbkhbnemhkheaa

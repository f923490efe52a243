/- An operation is taken off bytes, by the program. -/
import Derived.Test.YtiofkhjpknfkgaaDoorP01
import Derived.Test.YtiofkhjpknfkgaaDoorP02
import Derived.Test.YtiofkhjpknfkgaaDoorP03
import Derived.Test.YtiofkhjpknfkgaaDoorP04
import Derived.Test.YtiofkhjpknfkgaaDoorP05
import Derived.Test.YtiofkhjpknfkgaaDoorP06
import Derived.Test.YtiofkhjpknfkgaaDoorP07
import Derived.Test.YtiofkhjpknfkgaaDoorP08
import Derived.Test.YtiofkhjpknfkgaaDoorP09
import Derived.Test.YtiofkhjpknfkgaaDoorP10
import Derived.Test.YtiofkhjpknfkgaaDoorP11
import Derived.Test.YtiofkhjpknfkgaaDoorP12
import Derived.Test.YtiofkhjpknfkgaaDoorP13
import Derived.Test.YtiofkhjpknfkgaaDoorP14
import Derived.Test.YtiofkhjpknfkgaaDoorP15
namespace Go.Proofs.YtiofkhjpknfkgaaDoor
namespace Dl
open Go.RowKit Ba Tm Dm Os_
set_option linter.unusedVariables false
/-- what a call that gives up hands back -/
def GaveUp (A : Option Addr) (n c : Nat) (e : Int) : Value := .tuple #[.agg #[.bool false, .int .i64 0, .int .i64 0, .slice none 0 0], .slice A n c, .bool false, .int .i64 e]
theorem hmf (fn : Fn) (first cap : Array Value) (w : World) : (Instr.makeFunc fn first cap).run Tryd.prog w = .ok (.func fn first cap) w := rfl
theorem door_fault {R : Ending → World → Prop} {tm : Array Value} {w w0 : World} {N : Nat} {A : Option Addr} {n c : Nat} {x1 : Bool} {x2 x3 : Int} {x4 r : Value} {th : Bool} {e0 : Int} (e : Int) (hF : Fr w N (.slice A n c) x1 x2 x3 x4 r th e0) (h6 : tm.getD 6 undef = .pointer (some ⟨N + 1, 0, none⟩)) (h7 : tm.getD 7 undef = .pointer (some ⟨N + 1 + 1, 0, none⟩)) (h8 : tm.getD 8 undef = .pointer (some ⟨N + 1 + 1 + 1, 0, none⟩)) (h9 : tm.getD 9 undef = .pointer (some ⟨N + 1 + 1 + 1 + 1, 0, none⟩))
    (hb : w0.heap.size ≤ N) (hB : Below w0.heap.size w0 w) (hR : ∀ w', Below w0.heap.size w0 w' → R (.returned (GaveUp A n c e)) w') :
    bodyPostD Tryd.prog Tryd.f55 R (.panic [{ v := .iface 126 (.agg #[.int .i64 e]), recovered := false }]) { tmps := tm, defers := [{ target := .fn (.func 71) (frArgs N), args := #[] }] } w := by
  refine leaves_cons (f := 71) (args := frArgs N) (by simp) (by simp [go_sem, frArgs]) ?_
  refine (catch_fault N A n c _ _ _ _ _ _ _ e [] w hF).mono ?_
  rintro x u' w' ⟨rfl, rfl, hF', hb'⟩
  simp only [settle, List.dropWhile_nil]
  exact ⟨_, take_results tm w' N _ _ _ _ _ _ _ _ hF' h6 h7 h8 h9, hR w' (hB.trans (hb'.mono hb))⟩
theorem door_idle {R : Ending → World → Prop} {tm : Array Value} {w : World} {N : Nat} {b : Value} {x1 : Bool} {x2 x3 : Int} {x4 r : Value} {th : Bool} {e : Int} (hF : Fr w N b x1 x2 x3 x4 r th e) (h6 : tm.getD 6 undef = .pointer (some ⟨N + 1, 0, none⟩)) (h7 : tm.getD 7 undef = .pointer (some ⟨N + 1 + 1, 0, none⟩)) (h8 : tm.getD 8 undef = .pointer (some ⟨N + 1 + 1 + 1, 0, none⟩)) (h9 : tm.getD 9 undef = .pointer (some ⟨N + 1 + 1 + 1 + 1, 0, none⟩))
    (hR : R (.returned (.tuple #[.agg #[.bool x1, .int .i64 x2, .int .i64 x3, x4], r, .bool th, .int .i64 e])) w) :
    bodyPostD Tryd.prog Tryd.f55 R .ret { tmps := tm, defers := [{ target := .fn (.func 71) (frArgs N), args := #[] }] } w := by
  refine leaves_cons (f := 71) (args := frArgs N) (by simp) (by simp [go_sem, frArgs]) ?_
  refine (catch_idle N w).mono ?_
  rintro x u' w' ⟨rfl, rfl, rfl⟩
  simp only [settle]
  exact ⟨_, take_results tm _ N _ _ _ _ _ _ _ _ hF h6 h7 h8 h9, hR⟩
theorem fr_new (w : World) (A : Option Addr) (n c : Nat) : Fr (((((w.alloc (.cells #[.slice A n c] 22)).alloc (.cells #[.bool false, .int .i64 0, .int .i64 0, .slice none 0 0] 40)).alloc (.cells #[.slice none 0 0] 22)).alloc (.cells #[.bool false] 4)).alloc (.cells #[.int .i64 0] 35)) w.heap.size (.slice A n c) false 0 0 (.slice none 0 0) (.slice none 0 0) false 0 ∧
    Below w.heap.size w (((((w.alloc (.cells #[.slice A n c] 22)).alloc (.cells #[.bool false, .int .i64 0, .int .i64 0, .slice none 0 0] 40)).alloc (.cells #[.slice none 0 0] 22)).alloc (.cells #[.bool false] 4)).alloc (.cells #[.int .i64 0] 35)) := by
  have k : ∀ (w : World) (o : Obj), (w.alloc o).heap.size = w.heap.size + 1 := fun w o => by simp
  refine ⟨⟨?_, ?_, ?_, ?_, ?_⟩, ((((((Below.refl _ _).alloc (Nat.le_refl _) _).alloc (by simp) _).alloc (by simp; omega) _).alloc (by simp; omega) _).alloc (by simp; omega) _)⟩
  · exact (((Blk.alloc (Blk.new w _ _) _).alloc _).alloc _).alloc _
  · have := Blk.new (w.alloc (.cells #[.slice A n c] 22)) 40 #[.bool false, .int .i64 0, .int .i64 0, .slice none 0 0]
    rw [k] at this
    exact ((this.alloc _).alloc _).alloc _
  · have := Blk.new ((w.alloc (.cells #[.slice A n c] 22)).alloc (.cells #[.bool false, .int .i64 0, .int .i64 0, .slice none 0 0] 40)) 22 #[.slice none 0 0]
    rw [k, k] at this
    exact (this.alloc _).alloc _
  · have := Blk.new (((w.alloc (.cells #[.slice A n c] 22)).alloc (.cells #[.bool false, .int .i64 0, .int .i64 0, .slice none 0 0] 40)).alloc (.cells #[.slice none 0 0] 22)) 4 #[.bool false]
    rw [k, k, k] at this
    exact this.alloc _
  · have := Blk.new ((((w.alloc (.cells #[.slice A n c] 22)).alloc (.cells #[.bool false, .int .i64 0, .int .i64 0, .slice none 0 0] 40)).alloc (.cells #[.slice none 0 0] 22)).alloc (.cells #[.bool false] 4)) 35 #[.int .i64 0]
    rw [k, k, k, k] at this
    exact this
theorem rt_cut {w : World} {A : Option Addr} {l : List UInt8} (h : RT w A l) {k cap : Nat} (hc : l.length ≤ cap) : RT w (if cap = k then A else A.map (·.add k)) (l.drop k) := fun hn => by
  have hk : k < l.length := by simp at hn; omega
  obtain ⟨b, o, cs, rfl, _, _⟩ := h (by omega)
  have := RT.drop h k
  rw [if_neg (by omega), Option.map_some, add_lit_]
  exact this hn
/-- what taking an operation off does -/
def TakePost (w : World) (l : List UInt8) (A : Option Addr) (n c : Nat) (old room : Int) (r : Ending) (w' : World) : Prop :=
  Below w.heap.size w w' ∧ (¬ takeOk l old room → r = .returned (GaveUp A n c (takeE l old room))) ∧
      (takeOk l old room → ∃ (D : Option Addr) (k : Nat) (A' : Option Addr), r = .returned (.tuple #[.agg (opv ((one l old).1, D, k)).toArray, .slice A' (n - (one l old).2.1) (c - (one l old).2.1), .bool true, .int .i64 0]) ∧ WfT w' ((one l old).1, D, k) ∧
        RT w A' (l.drop (one l old).2.1) ∧ (one l old).2.1 ≤ n)
theorem post_fault {w : World} {l : List UInt8} {A : Option Addr} {n c : Nat} {old room e : Int} {w' : World} (hb : Below w.heap.size w w') (h : ¬ takeOk l old room ∧ takeE l old room = e) : TakePost w l A n c old room (.returned (GaveUp A n c e)) w' :=
  ⟨hb, fun _ => by rw [h.2], fun hk => absurd hk h.1⟩
theorem post_ok {w : World} {l : List UInt8} {A : Option Addr} {n c : Nat} {old room : Int} {w' : World} {X : O} {u m d k : Nat} {A' D : Option Addr} (hb : Below w.heap.size w w') (h : one l old = (X, u, 0)) (hu : u ≠ 0) (hm : makes X ≤ room) (hmn : m = n - u) (hdc : d = c - u) (hw : WfT w' (X, D, k)) (hr : RT w A' (l.drop u)) (hun : u ≤ n) :
    TakePost w l A n c old room (.returned (.tuple #[.agg #[.bool X.copy, .int .i64 X.pos, .int .i64 X.n, .slice D X.data.length k], .slice A' m d, .bool true, .int .i64 0])) w' := by
  refine ⟨hb, fun hk => absurd (take_yes h hu hm) hk, fun _ => ?_⟩
  rw [h]
  subst hmn hdc
  exact ⟨D, k, A', rfl, hw, hr, hun⟩
theorem ne_sl : (5 : TypeId) ≠ 22 := by decide
theorem ne_bo : (5 : TypeId) ≠ 4 := by decide
theorem ne_er : (5 : TypeId) ≠ 35 := by decide
set_option maxRecDepth 100000 in
set_option maxHeartbeats 16000000 in
theorem take_calls (l : List UInt8) (A : Option Addr) (n c : Nat) (old room : Int) (hn : n = l.length) (hlc : n ≤ c) (hcm : c ≤ 9223372036854775807) (ho : -9223372036854775808 ≤ old ∧ old ≤ 9223372036854775807) (hroom : 0 ≤ room ∧ room ≤ 65536) (w : World) (h : RT w A l) :
    Calls Tryd.prog 55 #[.slice A n c, .int .i64 old, .int .i64 room] w fun r w' => TakePost w l A n c old room r w' := by
  have Hn := Lib.hid hn
  have hmf := fun fn first cap w => hmf fn first cap w
  obtain ⟨hf, hb⟩ := fr_new w A n c
  have HF := Lib.hid hf
  have HB := Lib.hid hb
  have Hh := Lib.hid h
  obtain ⟨i0, hi0⟩ := isByte_of Vi.info5
  have Hi := Lib.hid hi0
  clear hn hf hb h hi0
  go_enter_defers Tryd.func55, Tryd.ntmps55
  go_wp2_with fail
  generalize hWW : (((((w.alloc (.cells #[.slice A n c] 22)).alloc (.cells #[.bool false, .int .i64 0, .int .i64 0, .slice none 0 0] 40)).alloc (.cells #[.slice none 0 0] 22)).alloc (.cells #[.bool false] 4)).alloc (.cells #[.int .i64 0] 35)) = W at *
  clear hWW
  obtain ⟨N, hN⟩ : ∃ N, N = w.heap.size := ⟨_, rfl⟩
  rw [← hN] at HF ⊢
  have HN := Lib.hid hN
  clear hN
  by_cases hl : 0 < n
  · have t2 : decide (0 < n) = true := by simpa using hl
    rw [t2]
    obtain ⟨x, t, hxt⟩ : ∃ x t, l = x :: t := by
      cases l with
      | nil => have := Hn.out; simp at this; omega
      | cons x t => exact ⟨x, t, rfl⟩
    subst hxt
    obtain ⟨b, o, hA, hbB, hxc⟩ := Hh.out.readB.head (by simp)
    subst hA
    have Hxb : Hid (∀ W' : World, Below w.heap.size w W' → W'.cell? ⟨b, o, none⟩ = some (.int .u8 (x.toNat : Int))) := Lib.hid fun W' hb => (hb.cell (p := ⟨b, o, none⟩) hbB).trans hxc
    clear hxc t2
    refine Calls.mono (must_ok _ _) ?_
    rintro e2 w2 ⟨rfl, rfl⟩
    by_cases hx1 : x.toNat ≤ 1
    · have t3 : (x.toNat : Int) ≤ 1 := by omega
      have t4 : decide ((x.toNat : Int) ≤ 1) = true := decide_eq_true t3
      obtain ⟨A1, hA1⟩ : ∃ A1, A1 = if c = 1 then (some ⟨b, o, none⟩ : Option Addr) else (some ⟨b, o, none⟩ : Option Addr).map (·.add 1) := ⟨_, rfl⟩
      obtain ⟨n1, hn1⟩ : ∃ n1, n1 = n - 1 := ⟨_, rfl⟩
      obtain ⟨c1, hc1⟩ : ∃ c1, c1 = c - 1 := ⟨_, rfl⟩
      have hsl := fun w' => sl_l (P := Tryd.prog) 22 5 i0 Tryd.underlying22 Hi.out (some ⟨b, o, none⟩) n c 1 1 rfl (by omega) w'
      have hr1 : RT w A1 t := by
        have := rt_cut Hh.out (k := 1) (cap := c) (by rw [← Hn.out]; exact hlc)
        rw [← hA1] at this
        exact this
      rw [← hA1, ← hn1, ← hc1] at hsl
      have hl1 : n1 = t.length := by have := Hn.out; simp at this; omega
      have hlc1 : n1 ≤ c1 := by omega
      have hcm1 : c1 ≤ 9223372036854775807 := by omega
      have Hl1 := Lib.hid hl1
      have Hr1 := Lib.hid hr1
      have HA1 := Lib.hid hA1
      have Hn1 := Lib.hid hn1
      have Hc1 := Lib.hid hc1
      clear hl1 hr1 hA1 hn1 hc1
      obtain ⟨kc0, ⟨kd0, kd1, kd2, kd3, d4⟩, kc2, kc3, kc4⟩ := HF.out.cells
      obtain ⟨z0, z1, z2, z3, z4⟩ := HF.out.froz
      have HD := Lib.hid d4
      clear d4
      have xb := Hxb.out W HB.out
      go_wp2_with fail
      refine Calls.mono (must_ok _ _) ?_
      rintro e2 w2 ⟨rfl, rfl⟩
      go_wp2_with fail
      clear kc0 kd0 kd1 kd2 kd3 kc2 kc3 kc4 z0 z1 z2 z3 z4 HD
      clear xb t3 t4 hsl
      by_cases hs1 : (Vm.shortest t).2.2 = 0
      · have hnk := number_ok (t) A1 n1 c1 w.heap.size Hl1.out W (Hr1.out.readB.below HB.out) hlc1 hcm1 hs1
        obtain ⟨hsb, -, hub⟩ := Vm.sh_facts (t)
        have hub := hub hs1
        obtain ⟨s2, hS2⟩ : ∃ s2, s2 = (Vm.shortest (t)).1 := ⟨_, rfl⟩
        obtain ⟨u2, hU2⟩ : ∃ u2, u2 = (Vm.shortest (t)).2.1 := ⟨_, rfl⟩
        rw [← hS2, ← hU2] at hnk
        rw [← hS2] at hsb
        rw [← hU2] at hub
        obtain ⟨A2, hA2⟩ : ∃ A2, A2 = if c1 = u2 then A1 else (A1).map (·.add u2) := ⟨_, rfl⟩
        obtain ⟨n2, hn2⟩ : ∃ n2, n2 = n1 - u2 := ⟨_, rfl⟩
        obtain ⟨c2, hc2⟩ : ∃ c2, c2 = c1 - u2 := ⟨_, rfl⟩
        rw [← hA2, ← hn2, ← hc2] at hnk
        have hr2 : RT w A2 ((t).drop u2) := by
          have := rt_cut Hr1.out (k := u2) (cap := c1) (by rw [← Hl1.out]; exact hlc1)
          rw [← hA2] at this
          exact this
        have hl2 : n2 = ((t).drop u2).length := by rw [List.length_drop, hn2, Hl1.out]
        have hlc2 : n2 ≤ c2 := by omega
        have hcm2 : c2 ≤ 9223372036854775807 := by omega
        have Hl2 := Lib.hid hl2
        have Hr2 := Lib.hid hr2
        have Hn2 := Lib.hid hn2
        have Hc2 := Lib.hid hc2
        have HS2 := Lib.hid hS2
        have HU2 := Lib.hid hU2
        have Hub2 : Hid (u2 ≤ n1) := Lib.hid (by rw [Hl1.out]; exact hub)
        clear hl2 hr2 hn2 hc2 hA2 hS2 hU2 hub
        refine Calls.mono hnk ?_
        rintro e3 w3 ⟨rfl, hb3⟩
        have HF2 := Lib.hid (HF.out.below hb3)
        have HB2 := Lib.hid (HB.out.trans (hb3.mono HB.out.size))
        clear hb3 hnk
        by_cases hx2 : x.toNat = 1
        · have t5 : ((x.toNat : Int) == 1) = true := by simp [hx2]
          have hx3 : (x.toNat : Int) = 1 := by omega
          obtain ⟨kc0, ⟨kd0, kd1, kd2, kd3, d4⟩, kc2, kc3, kc4⟩ := HF2.out.cells
          obtain ⟨z0, z1, z2, z3, z4⟩ := HF2.out.froz
          have HD := Lib.hid d4
          clear d4
          have xb := Hxb.out _ HB2.out
          have HF3 : Hid (Fr ((w3.setCell ⟨N + 1, 0, none⟩ (.bool true)).setCell ⟨N + 1, 1, none⟩ (.int .i64 (s2 : Int))) N (.slice (some ⟨b, o, none⟩) n c) true (s2 : Int) 0 (.slice none 0 0) (.slice none 0 0) false 0) := Lib.hid ((HF2.out.setc true).setp (s2 : Int))
          have HB3 : Hid (Below w.heap.size w ((w3.setCell ⟨N + 1, 0, none⟩ (.bool true)).setCell ⟨N + 1, 1, none⟩ (.int .i64 (s2 : Int)))) := Lib.hid ((HB2.out.setCell (by have := HN.out; simp; omega) _).setCell (by have := HN.out; simp; omega) _)
          go_wp2_with fail
          clear kc0 kd0 kd1 kd2 kd3 kc2 kc3 kc4 z0 z1 z2 z3 z4 HD
          clear xb t5
          by_cases hs2 : (Vm.shortest (t.drop u2)).2.2 = 0
          · have hnk := number_ok (t.drop u2) A2 n2 c2 w.heap.size Hl2.out ((w3.setCell ⟨N + 1, 0, none⟩ (.bool true)).setCell ⟨N + 1, 1, none⟩ (.int .i64 (s2 : Int))) (Hr2.out.readB.below HB3.out) hlc2 hcm2 hs2
            obtain ⟨hsb, -, hub⟩ := Vm.sh_facts (t.drop u2)
            have hub := hub hs2
            obtain ⟨s4, hS4⟩ : ∃ s4, s4 = (Vm.shortest (t.drop u2)).1 := ⟨_, rfl⟩
            obtain ⟨u4, hU4⟩ : ∃ u4, u4 = (Vm.shortest (t.drop u2)).2.1 := ⟨_, rfl⟩
            rw [← hS4, ← hU4] at hnk
            rw [← hS4] at hsb
            rw [← hU4] at hub
            obtain ⟨A4, hA4⟩ : ∃ A4, A4 = if c2 = u4 then A2 else (A2).map (·.add u4) := ⟨_, rfl⟩
            obtain ⟨n4, hn4⟩ : ∃ n4, n4 = n2 - u4 := ⟨_, rfl⟩
            obtain ⟨c4, hc4⟩ : ∃ c4, c4 = c2 - u4 := ⟨_, rfl⟩
            rw [← hA4, ← hn4, ← hc4] at hnk
            have hr4 : RT w A4 ((t.drop u2).drop u4) := by
              have := rt_cut Hr2.out (k := u4) (cap := c2) (by rw [← Hl2.out]; exact hlc2)
              rw [← hA4] at this
              exact this
            have hl4 : n4 = ((t.drop u2).drop u4).length := by rw [List.length_drop, hn4, Hl2.out]
            have hlc4 : n4 ≤ c4 := by omega
            have hcm4 : c4 ≤ 9223372036854775807 := by omega
            have Hl4 := Lib.hid hl4
            have Hr4 := Lib.hid hr4
            have Hn4 := Lib.hid hn4
            have Hc4 := Lib.hid hc4
            have HS4 := Lib.hid hS4
            have HU4 := Lib.hid hU4
            have Hub4 : Hid (u4 ≤ n2) := Lib.hid (by rw [Hl2.out]; exact hub)
            clear hl4 hr4 hn4 hc4 hA4 hS4 hU4 hub
            refine Calls.mono hnk ?_
            rintro e3 w5 ⟨rfl, hb3⟩
            have HF4 := Lib.hid (HF3.out.below hb3)
            have HB4 := Lib.hid (HB3.out.trans (hb3.mono HB3.out.size))
            clear hb3 hnk
            obtain ⟨kc0, ⟨kd0, kd1, kd2, kd3, d4⟩, kc2, kc3, kc4⟩ := HF4.out.cells
            obtain ⟨z0, z1, z2, z3, z4⟩ := HF4.out.froz
            have HD := Lib.hid d4
            clear d4
            have HF6 : Hid (Fr ((w5.setCell ⟨N + 1, 2, none⟩ (.int .i64 (s4 : Int))).setCell ⟨N + 1 + 1, 0, none⟩ (.slice A4 n4 c4)) N (.slice (some ⟨b, o, none⟩) n c) true (s2 : Int) (s4 : Int) (.slice none 0 0) (.slice A4 n4 c4) false 0) := Lib.hid ((HF4.out.setn (s4 : Int)).set2 (.slice A4 n4 c4))
            have HB6 : Hid (Below w.heap.size w ((w5.setCell ⟨N + 1, 2, none⟩ (.int .i64 (s4 : Int))).setCell ⟨N + 1 + 1, 0, none⟩ (.slice A4 n4 c4))) := Lib.hid ((HB4.out.setCell (by have := HN.out; simp; omega) _).setCell (by have := HN.out; simp; omega) _)
            have HD6 := Lib.hid HF6.out.cells.2.1.2.2.2.2
            have hmc := fun w => may_calls true (s2 : Int) (s4 : Int) none 0 0 old (by omega) (by omega) ho (by omega) w
            have Hmc := Lib.hid hmc
            clear hmc
            have hone := one_cp x t old hx2 hs1
            rw [← HU2.out, ← HS2.out, ← HS4.out, ← HU4.out] at hone
            rw [if_neg (by omega), if_neg (by omega)] at hone
            have hmv : may (cp (s2 : Int) (s4 : Int)) old = mayv true (s2 : Int) (s4 : Int) 0 old := rfl
            rw [hmv] at hone
            have Hone := Lib.hid hone
            clear hone hmv
            go_wp2_with (refine wpList_load_mid rfl 40 (.tmp 6) rfl (N + 1) 0 rfl [.bool true, .int .i64 (s2 : Int), .int .i64 (s4 : Int), .slice none 0 0] _ HD6.out Tryd.underlying40 rfl (by kernel_rfl) ?_)
            clear kc0 kd0 kd1 kd2 kd3 kc2 kc3 kc4 z0 z1 z2 z3 z4 HD
            refine Calls.mono (Hmc.out _) ?_
            rintro e7 w7 ⟨rfl, hb7⟩
            have HF7 := Lib.hid (HF6.out.below hb7)
            have HB7 := Lib.hid (HB6.out.trans (hb7.mono HB6.out.size))
            clear hb7 HD6
            by_cases hv : mayv true (s2 : Int) (s4 : Int) 0 old = true
            · rw [hv]
              have hone := Hone.out
              rw [if_pos hv] at hone
              have Hone := Lib.hid hone
              clear hv hone
              go_wp2_with fail
              refine Calls.mono (must_ok _ _) ?_
              rintro e2 w2 ⟨rfl, rfl⟩
              have HD7 := Lib.hid HF7.out.cells.2.1.2.2.2.2
              obtain ⟨kc0, -, kc2, kc3, kc4⟩ := HF7.out.cells
              have hmk := fun w => makes_calls true (s2 : Int) (s4 : Int) none 0 0 w
              have Hmk := Lib.hid hmk
              clear hmk
              go_wp2_with (refine wpList_load_mid rfl 40 (.tmp 6) rfl (N + 1) 0 rfl [.bool true, .int .i64 (s2 : Int), .int .i64 (s4 : Int), .slice none 0 0] _ HD7.out Tryd.underlying40 rfl (by kernel_rfl) ?_)
              refine Calls.mono (Hmk.out _) ?_
              rintro e8 w8 ⟨rfl, hb8⟩
              have HF8 := Lib.hid (HF7.out.below hb8)
              have HB8 := Lib.hid (HB7.out.trans (hb8.mono HB7.out.size))
              clear hb8 HD7 kc0 kc2 kc3 kc4
              by_cases hro : (s4 : Int) ≤ room
              · have t7 : decide ((s4 : Int) ≤ room) = true := decide_eq_true hro
                go_wp2_with fail
                refine Calls.mono (must_ok _ _) ?_
                rintro e2 w2 ⟨rfl, rfl⟩
                have HRT : Hid (RT w8.drew none []) := Lib.hid RT.nil
                obtain ⟨kc0, ⟨kd0, kd1, kd2, kd3, d4⟩, kc2, kc3, kc4⟩ := HF8.out.cells
                clear kd0 kd1 kd2 kd3
                have hfa : ∀ W : World, ∀ th' e', Fr W N (.slice (some ⟨b, o, none⟩) n c) true (s2 : Int) (s4 : Int) (.slice none 0 0) (.slice A4 n4 c4) th' e' → W.rangeAt (N + 1) 0 [.bool true, .int .i64 (s2 : Int), .int .i64 (s4 : Int), (.slice none 0 0)] ∧ W.cell? ⟨N + 1 + 1, 0, none⟩ = some (.slice A4 n4 c4) := fun W th' e' h => ⟨h.cells.2.1.2.2.2.2, h.cells.2.2.1⟩
                have hft : Fr w8.drew N (.slice (some ⟨b, o, none⟩) n c) true (s2 : Int) (s4 : Int) (.slice none 0 0) (.slice A4 n4 c4) false 0 := HF8.out
                have hbt : Below w.heap.size w w8.drew := HB8.out.drew
                have hrt : RT w8.drew none ([] : List UInt8) := HRT.out
                have Hfa := Lib.hid hfa
                clear hfa kc0 kc2 kc3 kc4
                go_wp2_with fail
                refine CanT.region (fun W => W.rangeAt (N + 1) 0 [.bool true, .int .i64 (s2 : Int), .int .i64 (s4 : Int), (.slice none 0 0)] ∧ W.cell? ⟨N + 1 + 1, 0, none⟩ = some (.slice A4 n4 c4)) 1000 (.op 0 1 (.op 1 1 (.op 2 0 (.op 3 0 (.op 4 0 (.op 5 0 (.nil))))))) (by kernel_rfl) (by kernel_rfl) (Hfa.out _ _ _ hft) ?_
                clear d4
                generalize w8.drew = W0 at *
                repeat (first | (refine CanT.skip rfl ?_ (fun K hK => ?_); (focus (go_simp; done)); go_simp; refine hK _ ?_; clear hK K) | (refine CanT.pur rfl ?_ ?_; (focus (go_simp; done)); refine ⟨?_, ?_, ?_⟩; rotate_left; (focus (intro w'; go_simp; rfl)); (focus (intro K hK; go_simp; refine hK _ ?_; clear hK K))) | (refine CanT.heldR rfl ?_ 40 _ rfl (N + 1) (0) ([.bool true, .int .i64 (s2 : Int), .int .i64 (s4 : Int), (.slice none 0 0)]) rfl (fun w1 h => h.1) _ Tryd.underlying40 rfl (by kernel_rfl) (fun K hK => ?_); (focus (go_simp; done)); go_simp; refine hK _ ?_; clear hK K) | (refine CanT.cellG rfl ?_ ((.slice A4 n4 c4)) ((.slice A4 n4 c4)) ⟨N + 1 + 1, 0, none⟩ (fun w1 h => h.2) ?_ (fun K hK => ?_); (focus (go_simp; done)); (focus (intro w' hc'; go_simp; (try rfl))); go_simp; refine hK _ ?_; clear hK K))
                refine CanT.imp rfl (fun K hK => ?_)
                refine step_storeR ?_ 40 (.tmp 6) (.tmp 69) rfl (N + 1) #[.bool true, .int .i64 (s2 : Int), .int .i64 (s4 : Int), (.slice none 0 0)] rfl rfl 40 _ hft.2.1 (by kernel_rfl) rfl (all_oneCell_toArray (opv_one (⟨true, (s2 : Int), (s4 : Int), []⟩, none, 0))) ?_
                focus (go_simp; done)
                intro W1 hB1 hg1
                have hF1 := hft.row1 hB1 hg1
                have hr1 := hrt.row hg1 (fun g hg => by injection hg with hg; subst hg; exact ⟨_, _, hft.2.1, op_ne⟩)
                have hW1 : Below w.heap.size w W1 := hbt.trans (below_of_only hg1 (by have := HN.out; omega) (by have := hft.lt; have := HN.out; omega))
                (try go_simp)
                refine hK.out _ _ (Hfa.out _ _ _ hF1) ?_
                clear hK K hft hbt hB1 hg1 hrt
                obtain ⟨kc0, -, kc2, kc3, kc4⟩ := hF1.cells
                obtain ⟨z0, z1, z2, z3, z4⟩ := hF1.froz
                refine CanT.imp rfl (fun K hK => ?_)
                go_simp
                have hF2 := hF1.set2 (.slice A4 n4 c4)
                have hr2 := hr1.row (only_set W1 (N + 1 + 1) 0 ((.slice A4 n4 c4))) (fun g hg => by injection hg with hg; subst hg; exact ⟨_, _, hF1.2.2.1, ne_sl⟩)
                have hW2 := hW1.setCell (p := ⟨N + 1 + 1, 0, none⟩) (by have := HN.out; simp; omega) (.slice A4 n4 c4)
                refine hK.out _ _ (Hfa.out _ _ _ hF2) ?_
                clear hK K hF1 hW1 hr1 kc0 kc2 kc3 kc4 z0 z1 z2 z3 z4
                generalize W1.setCell ⟨N + 1 + 1, 0, none⟩ (.slice A4 n4 c4) = W2 at *
                obtain ⟨kc0, -, kc2, kc3, kc4⟩ := hF2.cells
                obtain ⟨z0, z1, z2, z3, z4⟩ := hF2.froz
                refine CanT.imp rfl (fun K hK => ?_)
                go_simp
                have hF3 := hF2.set3 true
                have hr3 := hr2.row (only_set W2 (N + 1 + 1 + 1) 0 (.bool true)) (fun g hg => by injection hg with hg; subst hg; exact ⟨_, _, hF2.2.2.2.1, ne_bo⟩)
                have hW3 := hW2.setCell (p := ⟨N + 1 + 1 + 1, 0, none⟩) (by have := HN.out; simp; omega) (.bool true)
                refine hK.out _ _ (Hfa.out _ _ _ hF3) ?_
                clear hK K hF2 hW2 hr2 kc0 kc2 kc3 kc4 z0 z1 z2 z3 z4
                generalize W2.setCell ⟨N + 1 + 1 + 1, 0, none⟩ (.bool true) = W3 at *
                obtain ⟨kc0, -, kc2, kc3, kc4⟩ := hF3.cells
                obtain ⟨z0, z1, z2, z3, z4⟩ := hF3.froz
                refine CanT.imp rfl (fun K hK => ?_)
                go_simp
                have hF4 := hF3.set4 0
                have hr4 := hr3.row (only_set W3 (N + 1 + 1 + 1 + 1) 0 (.int .i64 0)) (fun g hg => by injection hg with hg; subst hg; exact ⟨_, _, hF3.2.2.2.2, ne_er⟩)
                have hW4 := hW3.setCell (p := ⟨N + 1 + 1 + 1 + 1, 0, none⟩) (by have := HN.out; simp; omega) (.int .i64 0)
                refine hK.out _ _ (Hfa.out _ _ _ hF4) ?_
                clear hK K hF3 hW3 hr3 kc0 kc2 kc3 kc4 z0 z1 z2 z3 z4
                generalize W3.setCell ⟨N + 1 + 1 + 1 + 1, 0, none⟩ (.int .i64 0) = W4 at *
                have HF4 := Lib.hid hF4
                have HW4 := Lib.hid hW4
                have HR4 := Lib.hid hr4
                clear hF4 hW4 hr4
                refine CanT.done ?_
                go_wp2_with fail
                refine door_idle HF4.out rfl rfl rfl rfl ?_
                have hdd := Hr4.out
                rw [List.drop_drop] at hdd
                have he : 1 + u2 + u4 = u2 + u4 + 1 := by omega
                exact post_ok (X := cp (s2 : Int) (s4 : Int)) (D := none) (k := 0) HW4.out Hone.out (by omega) hro (by rw [Hn4.out, Hn2.out, Hn1.out]; omega) (by rw [Hc4.out, Hc2.out, Hc1.out]; omega) ⟨⟨by first | (simp [cp]; done) | (simp [cp]; omega), by first | (simp [cp]; done) | (simp [cp]; omega)⟩, ⟨by first | (simp [cp]; done) | (simp [cp]; omega), by first | (simp [cp]; done) | (simp [cp]; omega)⟩, by simp [cp], by simp, RT.nil⟩ (by rw [he, List.drop_succ_cons]; exact hdd) (by have := Hub2.out; have := Hub4.out; have := Hn4.out; have := Hn2.out; have := Hn1.out; omega)
              · have t7 : decide ((s4 : Int) ≤ room) = false := decide_eq_false hro
                have h0 := take_long (room := room) Hone.out (by omega) hro
                have H0 := Lib.hid h0
                clear h0
                go_wp2_with fail
                refine Calls.mono (must_no _ _) ?_
                rintro e2 w2 ⟨rfl, rfl⟩
                go_wp2_with fail
                exact door_fault 5 HF8.out rfl rfl rfl rfl (by rw [HN.out]; exact Nat.le_refl _) HB8.out (fun w' hb => post_fault hb H0.out)
            · have hv2 : mayv true (s2 : Int) (s4 : Int) 0 old = false := by simpa using hv
              rw [hv2]
              have hone := Hone.out
              rw [if_neg hv] at hone
              have h0 := take_not (room := room) hone
              have H0 := Lib.hid h0
              clear h0 hone hv hv2
              go_wp2_with fail
              refine Calls.mono (must_no _ _) ?_
              rintro e2 w2 ⟨rfl, rfl⟩
              go_wp2_with fail
              exact door_fault 4 HF7.out rfl rfl rfl rfl (by rw [HN.out]; exact Nat.le_refl _) HB7.out (fun w' hb => post_fault hb H0.out)
          · have h0 := take_not (room := room) (by have := one_bad2 x t old hx2 hs1 (by rw [← HU2.out]; exact hs2); rw [← HU2.out] at this; exact this)
            have hnb := number_bad (t.drop u2) A2 n2 c2 w.heap.size Hl2.out ((w3.setCell ⟨N + 1, 0, none⟩ (.bool true)).setCell ⟨N + 1, 1, none⟩ (.int .i64 (s2 : Int))) (Hr2.out.readB.below HB3.out) hlc2 hcm2 hs2
            obtain ⟨ee, hee⟩ : ∃ ee : Int, ee = if (Vm.shortest (t.drop u2)).2.2 = 4 then 4 else 0 := ⟨_, rfl⟩
            rw [← hee] at h0 hnb
            have H0 := Lib.hid h0
            clear h0 hee
            refine Calls.mono hnb ?_
            rintro e3 w4 ⟨rfl, hb3⟩
            have HF4 := Lib.hid (HF3.out.below hb3)
            have HB4 := Lib.hid (HB3.out.trans (hb3.mono HB3.out.size))
            clear hb3 hnb
            go_wp2_with fail
            exact door_fault ee HF4.out rfl rfl rfl rfl (by rw [HN.out]; exact Nat.le_refl _) HB4.out (fun w' hb => post_fault hb H0.out)
        · have hx3 : x.toNat = 0 := by omega
          have t5 : ((x.toNat : Int) == 1) = false := by simp [hx3]
          have hx4 : ¬ (x.toNat : Int) = 1 := by omega
          have hone := one_litE x t old hx3 hs1
          rw [← HU2.out, ← HS2.out] at hone
          have hnl : (t.drop u2).length = n2 := Hl2.out.symm
          rw [hnl] at hone
          have Hone := Lib.hid hone
          have Hx3 := Lib.hid hx3
          clear hone hnl hx3 hx2
          obtain ⟨kc0, ⟨kd0, kd1, kd2, kd3, d4⟩, kc2, kc3, kc4⟩ := HF2.out.cells
          obtain ⟨z0, z1, z2, z3, z4⟩ := HF2.out.froz
          have HD := Lib.hid d4
          clear d4
          have xb := Hxb.out _ HB2.out
          by_cases ha : s2 ≤ 65536
          · have t6 : (s2 : Int) ≤ 65536 := by omega
            have t7 : decide ((s2 : Int) ≤ 65536) = true := decide_eq_true t6
            have t8 : decide (s2 ≤ 65536) = true := decide_eq_true ha
            go_wp2_with fail
            refine Calls.mono (must_ok _ _) ?_
            rintro e2 w2 ⟨rfl, rfl⟩
            clear t5 t7 t8 xb hx4
            by_cases hb : 0 < s2
            · have t9 : decide (0 < s2) = true := decide_eq_true hb
              have t10 : (0 : Int) < (s2 : Int) := by omega
              go_wp2_with fail
              refine Calls.mono (must_ok _ _) ?_
              rintro e2 w2 ⟨rfl, rfl⟩
              clear t9 t10
              by_cases hcl : s2 ≤ n2
              · have t11 : (s2 : Int) ≤ (n2 : Int) := by omega
                have t12 : decide (s2 ≤ n2) = true := decide_eq_true hcl
                go_wp2_with fail
                refine Calls.mono (must_ok _ _) ?_
                rintro e2 w2 ⟨rfl, rfl⟩
                clear t11 t12
                clear kc0 kd0 kd1 kd2 kd3 kc2 kc3 kc4 z0 z1 z2 z3 z4 HD
                have hone := Hone.out
                rw [if_neg (by omega), if_neg (by omega), if_neg (by omega)] at hone
                obtain ⟨L, hL⟩ : ∃ L, L = (t.drop u2).take s2 := ⟨_, rfl⟩
                rw [← hL] at hone
                have hLl : L.length = s2 := by rw [hL, List.length_take, ← Hl2.out]; omega
                obtain ⟨A4, hA4⟩ : ∃ A4, A4 = if c2 = s2 then A2 else A2.map (·.add s2) := ⟨_, rfl⟩
                obtain ⟨n4, hn4⟩ : ∃ n4, n4 = n2 - s2 := ⟨_, rfl⟩
                obtain ⟨c4, hc4⟩ : ∃ c4, c4 = c2 - s2 := ⟨_, rfl⟩
                have hsl1 := fun w' => sl_h (P := Tryd.prog) 22 5 i0 Tryd.underlying22 Hi.out A2 n2 c2 (s2 : Int) s2 rfl (by omega) w'
                have hsl2 := fun w' => sl_l (P := Tryd.prog) 22 5 i0 Tryd.underlying22 Hi.out A2 n2 c2 (s2 : Int) s2 rfl (by omega) w'
                rw [← hA4, ← hn4, ← hc4] at hsl2
                have hr4 : RT w A4 ((t.drop u2).drop s2) := by
                  have := rt_cut Hr2.out (k := s2) (cap := c2) (by rw [← Hl2.out]; exact hlc2)
                  rw [← hA4] at this
                  exact this
                have hrL : ReadB w w.heap.size A2 L := by rw [hL]; exact Hr2.out.readB.take s2
                have Hone2 := Lib.hid hone
                have HLl := Lib.hid hLl
                have Hn4 := Lib.hid hn4
                have Hc4 := Lib.hid hc4
                have Hr4 := Lib.hid hr4
                have HrL := Lib.hid hrL
                clear hone hLl hn4 hc4 hr4 hrL hL hA4
                have hcl5 := Cl.cloneN (c := c2) (A := A2) (n := s2) (w := w3.drew) (l := L) HLl.out.symm (by rw [HLl.out]; omega) (by rw [HLl.out]; omega) (((HrL.out.below HB2.out).drew).more (by have := HB2.out.size; simpa using this))
                have Hcl5 := Lib.hid hcl5
                have HFd : Hid (Fr w3.drew N (.slice (some ⟨b, o, none⟩) n c) false 0 0 (.slice none 0 0) (.slice none 0 0) false 0) := HF2
                have HBd := Lib.hid HB2.out.drew
                clear hcl5
                go_wp2_with fail
                refine CanT.region (fun _ => True) 1000 (.op 0 2 (.op 1 2 (.op 2 2 (.op 4 2 (.op 5 2 (.op 6 2 (.op 3 0 (.op 7 2 (.op 8 0 (.op 9 0 (.nil))))))))))) (by kernel_rfl) (by kernel_rfl) trivial ?_
                generalize w3.drew = w3d at *
                repeat (first | (refine CanT.skip rfl ?_ (fun K hK => ?_); (focus (go_simp; done)); go_simp; refine hK _ ?_; clear hK K) | (refine CanT.pur rfl ?_ ?_; (focus (go_simp; done)); refine ⟨?_, ?_, ?_⟩; rotate_left; (focus (intro w'; go_simp; rfl)); (focus (intro K hK; go_simp; refine hK _ ?_; clear hK K))))
                refine CanT.imp rfl (fun K hK => ?_)
                go_simp
                refine Calls.mono Hcl5.out ?_
                rintro e5 w6 ⟨v5, rfl, ho5, hb5⟩
                obtain ⟨A5, c5, rfl, hp5, hm5, hR5, -⟩ := ho5.opens
                have hrt5 := RT.of_own ho5
                have HF5 := Lib.hid (HFd.out.below hb5)
                have HB5 := Lib.hid (HBd.out.trans (hb5.mono HBd.out.size))
                rw [HLl.out] at hp5 ⊢
                have Hp5 := Lib.hid hp5
                have Hm5 := Lib.hid hm5
                have Hrt5 := Lib.hid hrt5
                (try go_simp)
                refine hK.out _ _ trivial ?_
                clear hK K hb5 ho5 hR5 hrt5 hp5 hm5
                repeat (first | (refine CanT.skip rfl ?_ (fun K hK => ?_); (focus (go_simp; done)); go_simp; refine hK _ ?_; clear hK K) | (refine CanT.pur rfl ?_ ?_; (focus (go_simp; done)); refine ⟨?_, ?_, ?_⟩; rotate_left; (focus (intro w'; go_simp; rfl)); (focus (intro K hK; go_simp; refine hK _ ?_; clear hK K))))
                obtain ⟨kc0, ⟨kd0, kd1, kd2, kd3, -⟩, kc2, kc3, kc4⟩ := HF5.out.cells
                obtain ⟨z0, z1, z2, z3, z4⟩ := HF5.out.froz
                refine CanT.imp rfl (fun K hK => ?_)
                go_simp
                refine hK.out _ _ trivial ?_
                clear hK K
                refine CanT.imp rfl (fun K hK => ?_)
                go_simp
                refine hK.out _ _ trivial ?_
                clear hK K
                refine CanT.done ?_
                clear kc0 kd0 kd1 kd2 kd3 kc2 kc3 kc4 z0 z1 z2 z3 z4 hsl1 hsl2
                have HF6 : Hid (Fr ((w6.setCell ⟨N + 1, 3, none⟩ (.slice A5 s2 c5)).setCell ⟨N + 1 + 1, 0, none⟩ (.slice A4 n4 c4)) N (.slice (some ⟨b, o, none⟩) n c) false 0 0 (.slice A5 s2 c5) (.slice A4 n4 c4) false 0) := Lib.hid ((HF5.out.setd (.slice A5 s2 c5)).set2 (.slice A4 n4 c4))
                have HB6 : Hid (Below w.heap.size w ((w6.setCell ⟨N + 1, 3, none⟩ (.slice A5 s2 c5)).setCell ⟨N + 1 + 1, 0, none⟩ (.slice A4 n4 c4))) := Lib.hid ((HB5.out.setCell (by have := HN.out; simp; omega) _).setCell (by have := HN.out; simp; omega) _)
                have Hrt6 : Hid (RT ((w6.setCell ⟨N + 1, 3, none⟩ (.slice A5 s2 c5)).setCell ⟨N + 1 + 1, 0, none⟩ (.slice A4 n4 c4)) A5 L) := Lib.hid ((Hrt5.out.row (only_set w6 (N + 1) 3 (.slice A5 s2 c5)) (fun g hg => by injection hg with hg; subst hg; exact ⟨_, _, HF5.out.2.1, op_ne⟩)).row (only_set _ (N + 1 + 1) 0 (.slice A4 n4 c4)) (fun g hg => by injection hg with hg; subst hg; exact ⟨_, _, (HF5.out.setd (.slice A5 s2 c5)).2.2.1, ne_sl⟩))
                generalize ((w6.setCell ⟨N + 1, 3, none⟩ (.slice A5 s2 c5)).setCell ⟨N + 1 + 1, 0, none⟩ (.slice A4 n4 c4)) = w7 at *
                have HD7 := Lib.hid HF6.out.cells.2.1.2.2.2.2
                obtain ⟨kc0, -, kc2, kc3, kc4⟩ := HF6.out.cells
                have hmk := fun w => makes_calls false 0 0 A5 s2 c5 w
                have Hmk := Lib.hid hmk
                clear hmk
                go_wp2_with (refine wpList_load_mid rfl 40 (.tmp 6) rfl (N + 1) 0 rfl [.bool false, .int .i64 0, .int .i64 0, .slice A5 s2 c5] _ HD7.out Tryd.underlying40 rfl (by kernel_rfl) ?_)
                refine Calls.mono (Hmk.out _) ?_
                rintro e8 w8 ⟨rfl, hb8⟩
                have HF8 := Lib.hid (HF6.out.below hb8)
                have HB8 := Lib.hid (HB6.out.trans (hb8.mono HB6.out.size))
                have HR8 := Lib.hid (Hrt6.out.below hb8)
                clear hb8 HD7 kc0 kc2 kc3 kc4
                have hmx : makes (lit L) = (s2 : Int) := by simp [makes, lit, HLl.out]
                have Hmx := Lib.hid hmx
                clear hmx
                by_cases hro : (s2 : Int) ≤ room
                · have t7 : decide ((s2 : Int) ≤ room) = true := decide_eq_true hro
                  go_wp2_with fail
                  refine Calls.mono (must_ok _ _) ?_
                  rintro e2 w2 ⟨rfl, rfl⟩
                  have HRT : Hid (RT w8.drew A5 L) := HR8
                  obtain ⟨kc0, ⟨kd0, kd1, kd2, kd3, d4⟩, kc2, kc3, kc4⟩ := HF8.out.cells
                  clear kd0 kd1 kd2 kd3
                  have hfa : ∀ W : World, ∀ th' e', Fr W N (.slice (some ⟨b, o, none⟩) n c) false 0 0 (.slice A5 s2 c5) (.slice A4 n4 c4) th' e' → W.rangeAt (N + 1) 0 [.bool false, .int .i64 0, .int .i64 0, (.slice A5 s2 c5)] ∧ W.cell? ⟨N + 1 + 1, 0, none⟩ = some (.slice A4 n4 c4) := fun W th' e' h => ⟨h.cells.2.1.2.2.2.2, h.cells.2.2.1⟩
                  have hft : Fr w8.drew N (.slice (some ⟨b, o, none⟩) n c) false 0 0 (.slice A5 s2 c5) (.slice A4 n4 c4) false 0 := HF8.out
                  have hbt : Below w.heap.size w w8.drew := HB8.out.drew
                  have hrt : RT w8.drew A5 L := HRT.out
                  have Hfa := Lib.hid hfa
                  clear hfa kc0 kc2 kc3 kc4
                  go_wp2_with fail
                  refine CanT.region (fun W => W.rangeAt (N + 1) 0 [.bool false, .int .i64 0, .int .i64 0, (.slice A5 s2 c5)] ∧ W.cell? ⟨N + 1 + 1, 0, none⟩ = some (.slice A4 n4 c4)) 1000 (.op 0 1 (.op 1 1 (.op 2 0 (.op 3 0 (.op 4 0 (.op 5 0 (.nil))))))) (by kernel_rfl) (by kernel_rfl) (Hfa.out _ _ _ hft) ?_
                  clear d4
                  generalize w8.drew = W0 at *
                  repeat (first | (refine CanT.skip rfl ?_ (fun K hK => ?_); (focus (go_simp; done)); go_simp; refine hK _ ?_; clear hK K) | (refine CanT.pur rfl ?_ ?_; (focus (go_simp; done)); refine ⟨?_, ?_, ?_⟩; rotate_left; (focus (intro w'; go_simp; rfl)); (focus (intro K hK; go_simp; refine hK _ ?_; clear hK K))) | (refine CanT.heldR rfl ?_ 40 _ rfl (N + 1) (0) ([.bool false, .int .i64 0, .int .i64 0, (.slice A5 s2 c5)]) rfl (fun w1 h => h.1) _ Tryd.underlying40 rfl (by kernel_rfl) (fun K hK => ?_); (focus (go_simp; done)); go_simp; refine hK _ ?_; clear hK K) | (refine CanT.cellG rfl ?_ ((.slice A4 n4 c4)) ((.slice A4 n4 c4)) ⟨N + 1 + 1, 0, none⟩ (fun w1 h => h.2) ?_ (fun K hK => ?_); (focus (go_simp; done)); (focus (intro w' hc'; go_simp; (try rfl))); go_simp; refine hK _ ?_; clear hK K))
                  refine CanT.imp rfl (fun K hK => ?_)
                  refine step_storeR ?_ 40 (.tmp 6) (.tmp 69) rfl (N + 1) #[.bool false, .int .i64 0, .int .i64 0, (.slice A5 s2 c5)] rfl rfl 40 _ hft.2.1 (by kernel_rfl) rfl (all_oneCell_toArray (fun u hu => by simp only [List.mem_cons, List.not_mem_nil, or_false] at hu; rcases hu with rfl | rfl | rfl | rfl <;> rfl)) ?_
                  focus (go_simp; done)
                  intro W1 hB1 hg1
                  have hF1 := hft.row1 hB1 hg1
                  have hr1 := hrt.row hg1 (fun g hg => by injection hg with hg; subst hg; exact ⟨_, _, hft.2.1, op_ne⟩)
                  have hW1 : Below w.heap.size w W1 := hbt.trans (below_of_only hg1 (by have := HN.out; omega) (by have := hft.lt; have := HN.out; omega))
                  (try go_simp)
                  refine hK.out _ _ (Hfa.out _ _ _ hF1) ?_
                  clear hK K hft hbt hB1 hg1 hrt
                  obtain ⟨kc0, -, kc2, kc3, kc4⟩ := hF1.cells
                  obtain ⟨z0, z1, z2, z3, z4⟩ := hF1.froz
                  refine CanT.imp rfl (fun K hK => ?_)
                  go_simp
                  have hF2 := hF1.set2 (.slice A4 n4 c4)
                  have hr2 := hr1.row (only_set W1 (N + 1 + 1) 0 ((.slice A4 n4 c4))) (fun g hg => by injection hg with hg; subst hg; exact ⟨_, _, hF1.2.2.1, ne_sl⟩)
                  have hW2 := hW1.setCell (p := ⟨N + 1 + 1, 0, none⟩) (by have := HN.out; simp; omega) (.slice A4 n4 c4)
                  refine hK.out _ _ (Hfa.out _ _ _ hF2) ?_
                  clear hK K hF1 hW1 hr1 kc0 kc2 kc3 kc4 z0 z1 z2 z3 z4
                  generalize W1.setCell ⟨N + 1 + 1, 0, none⟩ (.slice A4 n4 c4) = W2 at *
                  obtain ⟨kc0, -, kc2, kc3, kc4⟩ := hF2.cells
                  obtain ⟨z0, z1, z2, z3, z4⟩ := hF2.froz
                  refine CanT.imp rfl (fun K hK => ?_)
                  go_simp
                  have hF3 := hF2.set3 true
                  have hr3 := hr2.row (only_set W2 (N + 1 + 1 + 1) 0 (.bool true)) (fun g hg => by injection hg with hg; subst hg; exact ⟨_, _, hF2.2.2.2.1, ne_bo⟩)
                  have hW3 := hW2.setCell (p := ⟨N + 1 + 1 + 1, 0, none⟩) (by have := HN.out; simp; omega) (.bool true)
                  refine hK.out _ _ (Hfa.out _ _ _ hF3) ?_
                  clear hK K hF2 hW2 hr2 kc0 kc2 kc3 kc4 z0 z1 z2 z3 z4
                  generalize W2.setCell ⟨N + 1 + 1 + 1, 0, none⟩ (.bool true) = W3 at *
                  obtain ⟨kc0, -, kc2, kc3, kc4⟩ := hF3.cells
                  obtain ⟨z0, z1, z2, z3, z4⟩ := hF3.froz
                  refine CanT.imp rfl (fun K hK => ?_)
                  go_simp
                  have hF4 := hF3.set4 0
                  have hr4 := hr3.row (only_set W3 (N + 1 + 1 + 1 + 1) 0 (.int .i64 0)) (fun g hg => by injection hg with hg; subst hg; exact ⟨_, _, hF3.2.2.2.2, ne_er⟩)
                  have hW4 := hW3.setCell (p := ⟨N + 1 + 1 + 1 + 1, 0, none⟩) (by have := HN.out; simp; omega) (.int .i64 0)
                  refine hK.out _ _ (Hfa.out _ _ _ hF4) ?_
                  clear hK K hF3 hW3 hr3 kc0 kc2 kc3 kc4 z0 z1 z2 z3 z4
                  generalize W3.setCell ⟨N + 1 + 1 + 1 + 1, 0, none⟩ (.int .i64 0) = W4 at *
                  have HF4 := Lib.hid hF4
                  have HW4 := Lib.hid hW4
                  have HR4 := Lib.hid hr4
                  clear hF4 hW4 hr4
                  refine CanT.done ?_
                  go_wp2_with fail
                  refine door_idle HF4.out rfl rfl rfl rfl ?_
                  have hdd := Hr4.out
                  rw [List.drop_drop] at hdd
                  have he : 1 + u2 + s2 = u2 + s2 + 1 := by omega
                  have hp := post_ok (w' := W4) (A := some ⟨b, o, none⟩) (n := n) (c := c) (X := lit L) (m := n4) (d := c4) (D := A5) (k := c5) HW4.out Hone2.out (by omega) (by rw [Hmx.out]; exact hro) (by rw [Hn4.out, Hn2.out, Hn1.out]; omega) (by rw [Hc4.out, Hc2.out, Hc1.out]; omega) ⟨⟨by simp [lit], by simp [lit]⟩, ⟨by simp [lit], by simp [lit]⟩, by rw [show (lit L).data.length = s2 from HLl.out]; exact Hp5.out, Hm5.out, HR4.out⟩ (by rw [he, List.drop_succ_cons]; exact hdd) (by have := Hub2.out; have := Hn2.out; have := Hn1.out; omega)
                  rw [show (lit L).data.length = s2 from HLl.out] at hp
                  exact hp
                · have t7 : decide ((s2 : Int) ≤ room) = false := decide_eq_false hro
                  have h0 := take_long (room := room) Hone2.out (by omega) (by rw [Hmx.out]; exact hro)
                  have H0 := Lib.hid h0
                  clear h0
                  go_wp2_with fail
                  refine Calls.mono (must_no _ _) ?_
                  rintro e2 w2 ⟨rfl, rfl⟩
                  go_wp2_with fail
                  exact door_fault 5 HF8.out rfl rfl rfl rfl (by rw [HN.out]; exact Nat.le_refl _) HB8.out (fun w' hb => post_fault hb H0.out)
              · have t11 : ¬ (s2 : Int) ≤ (n2 : Int) := by omega
                have t12 : decide (s2 ≤ n2) = false := decide_eq_false hcl
                have hone := Hone.out
                rw [if_neg (by omega), if_neg (by omega), if_pos (by omega)] at hone
                have h0 := take_not (room := room) hone
                have H0 := Lib.hid h0
                clear h0 hone
                go_wp2_with fail
                refine Calls.mono (must_no _ _) ?_
                rintro e2 w2 ⟨rfl, rfl⟩
                clear kc0 kd0 kd1 kd2 kd3 kc2 kc3 kc4 z0 z1 z2 z3 z4 HD
                go_wp2_with fail
                exact door_fault 0 HF2.out rfl rfl rfl rfl (by rw [HN.out]; exact Nat.le_refl _) HB2.out (fun w' hb => post_fault hb H0.out)
            · have t9 : decide (0 < s2) = false := decide_eq_false hb
              have hone := Hone.out
              rw [if_neg (by omega), if_pos (by omega)] at hone
              have h0 := take_not (room := room) hone
              have H0 := Lib.hid h0
              clear h0 hone
              go_wp2_with fail
              refine Calls.mono (must_no _ _) ?_
              rintro e2 w2 ⟨rfl, rfl⟩
              clear kc0 kd0 kd1 kd2 kd3 kc2 kc3 kc4 z0 z1 z2 z3 z4 HD
              go_wp2_with fail
              exact door_fault 4 HF2.out rfl rfl rfl rfl (by rw [HN.out]; exact Nat.le_refl _) HB2.out (fun w' hb => post_fault hb H0.out)
          · have t6 : ¬ (s2 : Int) ≤ 65536 := by omega
            have t7 : decide ((s2 : Int) ≤ 65536) = false := decide_eq_false t6
            have t8 : decide (s2 ≤ 65536) = false := decide_eq_false ha
            have hone := Hone.out
            rw [if_pos (by omega)] at hone
            have h0 := take_not (room := room) hone
            have H0 := Lib.hid h0
            clear h0 hone
            go_wp2_with fail
            refine Calls.mono (must_no _ _) ?_
            rintro e2 w2 ⟨rfl, rfl⟩
            clear kc0 kd0 kd1 kd2 kd3 kc2 kc3 kc4 z0 z1 z2 z3 z4 HD
            go_wp2_with fail
            exact door_fault 5 HF2.out rfl rfl rfl rfl (by rw [HN.out]; exact Nat.le_refl _) HB2.out (fun w' hb => post_fault hb H0.out)
      · have h0 := take_not (room := room) (one_bad1 x t old hx1 hs1)
        have hnb := number_bad t A1 n1 c1 w.heap.size Hl1.out W (Hr1.out.readB.below HB.out) hlc1 hcm1 hs1
        obtain ⟨ee, hee⟩ : ∃ ee : Int, ee = if (Vm.shortest t).2.2 = 4 then 4 else 0 := ⟨_, rfl⟩
        rw [← hee] at h0 hnb
        have H0 := Lib.hid h0
        clear h0 hee
        refine Calls.mono hnb ?_
        rintro e3 w3 ⟨rfl, hb3⟩
        have HF3 := Lib.hid (HF.out.below hb3)
        have HB3 := Lib.hid (HB.out.trans (hb3.mono HB.out.size))
        clear hb3 hnb
        go_wp2_with fail
        exact door_fault ee HF3.out rfl rfl rfl rfl (by rw [HN.out]; exact Nat.le_refl _) HB3.out (fun w' hb => post_fault hb H0.out)
    · have h0 := take_not (room := room) (one_big x t old hx1)
      have H0 := Lib.hid h0
      have t3 : ¬ (x.toNat : Int) ≤ 1 := by omega
      have t4 : decide ((x.toNat : Int) ≤ 1) = false := decide_eq_false t3
      clear h0
      obtain ⟨kc0, ⟨kd0, kd1, kd2, kd3, d4⟩, kc2, kc3, kc4⟩ := HF.out.cells
      obtain ⟨z0, z1, z2, z3, z4⟩ := HF.out.froz
      have HD := Lib.hid d4
      clear d4
      have xb := Hxb.out W HB.out
      go_wp2_with fail
      refine Calls.mono (must_no _ _) ?_
      rintro e2 w2 ⟨rfl, rfl⟩
      clear kc0 kd0 kd1 kd2 kd3 kc2 kc3 kc4 z0 z1 z2 z3 z4 HD
      go_wp2_with fail
      exact door_fault 4 HF.out rfl rfl rfl rfl (by rw [HN.out]; exact Nat.le_refl _) HB.out (fun w' hb => post_fault hb H0.out)
  · have t1 : ¬ 0 < n := hl
    have t2 : decide (0 < n) = false := by simpa using hl
    rw [t2]
    refine Calls.mono (must_no _ _) ?_
    rintro e2 w2 ⟨rfl, rfl⟩
    have h0 : ¬ takeOk l old room ∧ takeE l old room = 0 := by
      have : l = [] := List.eq_nil_of_length_eq_zero (by rw [← Hn.out]; omega)
      rw [this]
      exact take_not (one_nil old)
    have H0 := Lib.hid h0
    clear h0 t1 t2
    go_wp2_with fail
    exact door_fault 0 HF.out rfl rfl rfl rfl (by rw [HN.out]; exact Nat.le_refl _) HB.out (fun w' hb => post_fault hb H0.out)

end Dl
end Go.Proofs.YtiofkhjpknfkgaaDoor
/- A decoder's loop, step by step: plain words. -/
namespace Go.Proofs.YtiofkhjpknfkgaaDoor
namespace Dm
open Tm
set_option linter.unusedVariables false
theorem loop_stop (old : Int) (f : Nat) (out : List O) (m : Int) (r : List UInt8) (h : ¬ takeOk r old (65536 - m)) : loop old (f + 1) out m r = if takeE r old (65536 - m) ≠ 0 then ([], m, r, takeE r old (65536 - m)) else (out, m, r, 0) := by
  unfold loop
  by_cases h0 : r.length = 0
  · have : r = [] := List.eq_nil_of_length_eq_zero h0
    subst this
    rw [if_pos (show ([] : List UInt8).length = 0 from rfl), if_neg (by unfold takeE; rw [one_nil]; simp)]
  · rw [if_neg h0]
    unfold takeE
    by_cases h1 : (one r old).2.2 = 0
    · rw [if_neg (by simp [h1]), if_neg (show ¬ (one r old).2.2 ≠ 0 by simp [h1])]
      by_cases h2 : (one r old).2.1 = 0
      · rw [if_pos h2, if_pos h2, if_neg (by simp)]
      · have h3 : ¬ makes (one r old).1 ≤ 65536 - m := fun hm => h ⟨h1, h2, hm⟩
        have h4 : 65536 - m < makes (one r old).1 := by omega
        simp [h2, h4]
    · rw [if_pos h1, if_pos (show (one r old).2.2 ≠ 0 from h1), if_pos h1]
theorem loop_go (old : Int) (f : Nat) (out : List O) (m : Int) (r : List UInt8) (h : takeOk r old (65536 - m)) : loop old (f + 1) out m r = loop old f (out ++ [(one r old).1]) (m + makes (one r old).1) (r.drop (one r old).2.1) := by
  obtain ⟨h1, h2, h3⟩ := h
  conv => lhs; unfold loop
  have h0 : ¬ r.length = 0 := fun h0 => by
    have : r = [] := List.eq_nil_of_length_eq_zero h0
    subst this
    exact h2 rfl
  rw [if_neg h0, if_neg (by simp [h1]), if_neg h2, if_neg (by omega)]
theorem one_makes (r : List UInt8) (old : Int) (h : (one r old).2.1 ≠ 0) : 0 ≤ makes (one r old).1 := by
  cases r with
  | nil => exact absurd rfl h
  | cons c t =>
    by_cases h1 : c.toNat ≤ 1
    · by_cases hs : (Vm.shortest t).2.2 = 0
      · by_cases hc : c.toNat = 0
        · rw [one_litE c t old hc hs]
          split
          · simp [makes, none_]
          · split
            · simp [makes, none_]
            · split
              · simp [makes, none_]
              · simp [makes, lit]
        · rw [one_cp c t old (by omega) hs]
          split
          · simp [makes, none_]
          · split
            · simp [makes, none_]
            · split
              · simp [makes, cp]
              · simp [makes, none_]
      · rw [one_bad1 c t old h1 hs]
        simp [makes, none_]
    · rw [one_big c t old h1]
      simp [makes, none_]
end Dm
end Go.Proofs.YtiofkhjpknfkgaaDoor

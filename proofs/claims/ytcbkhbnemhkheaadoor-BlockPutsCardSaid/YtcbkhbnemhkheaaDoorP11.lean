/- What the reference tells, lays and reads of a number of the wire: the same as the program. -/
import Derived.Test.YtcbkhbnemhkheaaDoorP01
import Derived.Test.YtcbkhbnemhkheaaDoorP02
import Derived.Test.YtcbkhbnemhkheaaDoorP03
import Derived.Test.YtcbkhbnemhkheaaDoorP04
import Derived.Test.YtcbkhbnemhkheaaDoorP05
import Derived.Test.YtcbkhbnemhkheaaDoorP06
import Derived.Test.YtcbkhbnemhkheaaDoorP07
import Derived.Test.YtcbkhbnemhkheaaDoorP08
import Derived.Test.YtcbkhbnemhkheaaDoorP09
import Derived.Test.YtcbkhbnemhkheaaDoorP10
import Derived.StillTailTactics
import Derived.Deep.RegionWith
namespace Go.Proofs.YtcbkhbnemhkheaaDoor
namespace Vi
open Go.RowKit Ba Vm
set_option linter.unusedVariables false

theorem room_yes (n : Int) (k : Nat) (hn : 0 ≤ n) (hk : W4 k) (h : n < lim k) (w : World) : Calls Tryd.prog 83 #[.int .i64 n, .int .i64 k] w fun e w' => e = .returned (.bool true) ∧ w = w' := by
  rcases hk with rfl | rfl | rfl | rfl
  all_goals
    simp only [lim] at h
    have hn2 : n ≤ 9223372036854775807 := by omega
    go_enter Tryd.func83, Tryd.ntmps83
    go_wp2
    go_ret
    exact ⟨ret_bool (by first | (simp; done) | (simp; omega)), rfl⟩
theorem room_no (n : Int) (k : Nat) (hn2 : n ≤ 9223372036854775807) (hk : W4 k) (h : n < 0 ∨ lim k ≤ n) (w : World) : Calls Tryd.prog 83 #[.int .i64 n, .int .i64 k] w fun e w' => e = .returned (.bool false) ∧ w = w' := by
  rcases hk with rfl | rfl | rfl | rfl
  all_goals
    simp only [lim] at h
    rcases h with h | h
    · go_enter Tryd.func83, Tryd.ntmps83
      go_wp2
      go_ret
      exact ⟨rfl, rfl⟩
    · go_enter Tryd.func83, Tryd.ntmps83
      go_wp2
      go_ret
      exact ⟨ret_bool (by first | (simp; done) | (simp; omega)), rfl⟩

set_option maxHeartbeats 400000 in
theorem rlen_calls (n : Int) (hn : n ≤ 9223372036854775807) (w : World) : Calls Tryd.prog 72 #[.int .i64 n] w fun e w' => e = .returned (.int .i64 (len n : Int)) ∧ w = w' := by
  go_enter Tryd.func72, Tryd.ntmps72
  go_wp2
  go_loop [3] (fun i => ∃ (k : Nat) (x : Int), k ≤ 4 ∧ i = .int .i64 x ∧ Hid (x = ((2 ^ k : Nat) : Int)) ∧ (k ≤ 3 → x ≤ 8) ∧ (k = 4 → x = 16) ∧ 1 ≤ x ∧ x ≤ 16 ∧ (0 < k → n < 0 ∨ lim (2 ^ (k - 1)) ≤ n)) (fun i => 16 - (intOf i).toNat)
  case atStart => exact ⟨0, 1, by omega, rfl, rfl, by omega, by omega, by omega, by omega, by omega⟩
  case round =>
    obtain ⟨k, x, hk, rfl, HX, hx3, hx4, hx1, hx16, hp⟩ := hrel
    by_cases h4 : k = 4
    · have h16 := hx4 h4
      subst h16
      have hz := Lib.hid (len_none n (by have := hp (by omega); rw [h4] at this; simpa [lim] using this))
      clear hx4 hx3 hp
      go_wp2
      go_ret
      exact ⟨ret_int (by rw [hz.out]; rfl), rfl⟩
    · have hx8 := hx3 (by omega)
      clear hx3 hx4
      have hw : W4 (2 ^ k) := by
        unfold W4
        have : k = 0 ∨ k = 1 ∨ k = 2 ∨ k = 3 := by omega
        rcases this with rfl | rfl | rfl | rfl <;> simp
      by_cases hc : 0 ≤ n ∧ n < lim (2 ^ k)
      · have hz := Lib.hid (len_pow n k (by omega) hc.1 hc.2 hp)
        clear hp
        go_wp2_with (go_at_call 83; refine Calls.mono (R := fun e w' => e = .returned (.bool true) ∧ _ = w') (by rw [HX.out]; exact room_yes n (2 ^ k) hc.1 hw hc.2 _) ?_; rintro e w' ⟨rfl, rfl⟩)
        go_ret
        exact ⟨ret_int (by rw [hz.out]; exact HX.out), rfl⟩
      · have hp1 : n < 0 ∨ lim (2 ^ k) ≤ n := by omega
        clear hp
        have Hp1 := Lib.hid hp1
        clear hp1 hc
        go_wp2_with (go_at_call 83; refine Calls.mono (R := fun e w' => e = .returned (.bool false) ∧ _ = w') (by rw [HX.out]; exact room_no n (2 ^ k) hn hw Hp1.out _) ?_; rintro e w' ⟨rfl, rfl⟩)
        all_goals
          refine ⟨⟨k + 1, 2 * x, by omega, by go_num, ?_, ?_, ?_, by omega, by omega, ?_⟩, by simp [intOf]; omega⟩
          · have := HX.out; show 2 * x = _; rw [Nat.pow_succ]; omega
          · intro h3; have h : k = 0 ∨ k = 1 ∨ k = 2 := by omega
            have := HX.out; rcases h with rfl | rfl | rfl <;> simp at this <;> omega
          · intro h3; have h : k = 3 := by omega
            have := HX.out; subst h; simp at this; omega
          · intro _; simpa using Hp1.out

theorem bits_calls (k : Nat) (hk : W4 k) (w : World) : Calls Tryd.prog 84 #[.int .i64 k] w fun e w' => e = .returned (.int .u8 (tag k * 64 : Nat)) ∧ w = w' := by
  rcases hk with rfl | rfl | rfl | rfl
  all_goals
    go_enter Tryd.func84, Tryd.ntmps84
    go_wp2
    go_ret
    exact ⟨rfl, rfl⟩
end Vi
end Go.Proofs.YtcbkhbnemhkheaaDoor
/- What the reference lays of a number of the wire: the same bytes as the program. -/
namespace Go.Proofs.YtcbkhbnemhkheaaDoor
namespace Vi
open Go.RowKit Ba Vm
set_option linter.unusedVariables false

theorem room_reg (N k : Nat) (h : N / 256 ^ k % 256 < 256) : UInt8.ofNat (N / 256 ^ k % 256) = UInt8.ofNat (N / 256 ^ k) := UInt8.toNat_inj.1 (by simp)

set_option maxHeartbeats 400000 in
theorem rputIn_1 (N : Nat) (hN : (N : Int) < lim 1) (w : World) : Calls Tryd.prog 73 #[.int .i64 (N : Int), .int .i64 1] w
    fun e w' => ∃ v, e = .returned (.tuple #[v, .int .i64 0]) ∧ OwnB w' w.heap.size 5 v (enc N 1) ∧ Below w.heap.size w w' := by
  have HN := Lib.hid hN
  simp only [lim] at hN
  have hk : W4 1 := by simp [W4]
  obtain ⟨i0, hi0⟩ := isByte_of info5
  have Hi := Lib.hid hi0
  clear hi0
  go_enter Tryd.func73, Tryd.ntmps73
  go_wp2_with (go_at_call 83; refine (room_yes (N : Int) 1 (by omega) hk HN.out _).mono ?_; rintro e w2 ⟨rfl, rfl⟩)
  go_loopw [6, 7] (fun o i wr => ∃ j : Nat, j ≤ 1 ∧ i = .int .i64 (1 - 1 - (j : Int)) ∧ OwnB wr w.heap.size 5 o ((be 1 N).take j) ∧ Below w.heap.size w wr) (fun _ i _ => (intOf i + 1).toNat)
  case atStart => exact ⟨0, by omega, by simp, OwnB.nil, Below.refl _ _⟩
  case round =>
    obtain ⟨j, hj, rfl, hrj, hbj⟩ := hrel
    by_cases hjk : j = 1
    · have e : (be 1 N).take j = be 1 N := List.take_of_length_le (by rw [be_length]; omega)
      rw [e] at hrj
      clear e
      subst hjk
      have hl8 := be_length 1 N
      obtain ⟨g, c, rfl, hge, hgl, hlc, hcm⟩ := hrj.row (by omega)
      have hc0 := hrj.cell (k := 0) (by omega)
      have hf0 := hrj.frz 0
      rw [be_head N 1 (by omega), UInt8.toNat_ofNat'] at hc0
      obtain ⟨V, hV⟩ : ∃ V : Nat, V = N / 256 ^ (1 - 1) % 256 := ⟨_, rfl⟩
      rw [show (2 : Nat) ^ 8 = 256 from rfl, ← hV] at hc0
      have hV2 : V < 256 := by rw [hV]; exact Nat.mod_lt _ (by omega)
      have HV := Lib.hid hV
      have Hb := Lib.hid hbj
      have Hr := Lib.hid hrj
      rw [hl8] at Hr hlc ⊢
      clear hV hbj hrj hl8
      go_wp2
      go_region_with (go_at_call 84; refine (bits_calls 1 hk _).mono ?_; rintro e w' ⟨rfl, rfl⟩)
      all_goals
        go_wp2
        go_ret2
        have hsum : (V + tag 1 * 64 : Nat) < 256 := by
          have e : V = N / 256 ^ 0 := by rw [HV.out]; exact Nat.mod_eq_of_lt (by simp; omega)
          simp [tag]; simp at e; omega
        have hr2 : OwnB wr w.heap.size 5 (.slice (some ⟨g, 0, none⟩) (be 1 N).length c) (be 1 N) := by rw [be_length]; exact Hr.out
        have hs1 := hr2.put 0 (V + tag 1 * 64) hsum
        have e2 : (be 1 N).set 0 (UInt8.ofNat (V + tag 1 * 64)) = enc N 1 := by rw [HV.out]; exact be_add_enc N 1 hk HN.out
        rw [e2, be_length] at hs1
        have e3 : IntKind.u8.wrap ((V : Int) + (tag 1 : Int) * 64) = ((V + tag 1 * 64 : Nat) : Int) := by rw [IntWalk.u8_in _ (by omega)]; omega
        refine ⟨.slice (some ⟨g, 0, none⟩) 1 c, rfl, ?_, ?_⟩
        · rw [e3]; exact hs1.drew
        · exact (Hb.out.setCell hge _).drew
    · have hjl : j < 1 := by omega
      obtain ⟨m, hm⟩ : ∃ m : Nat, (1 : Int) - 1 - (j : Int) = m := ⟨1 - 1 - j, by omega⟩
      have hm8 : m ≤ 7 := by omega
      rw [hm]
      have Hm := Lib.hid hm
      clear hm
      have hby : UInt8.ofNat (N / 256 ^ m % 256) = UInt8.ofNat (N / 256 ^ (1 - 1 - j)) := by
        have : m = 1 - 1 - j := by have := Hm.out; omega
        rw [this]
        exact UInt8.toNat_inj.1 (by simp)
      have Hby := Lib.hid hby
      have hlen : ((be 1 N).take j).length = j := by simp [be_length]; omega
      have Hlen := Lib.hid hlen
      have Hb := Lib.hid hbj
      have Hr := Lib.hid hrj
      clear hby hlen hbj hrj
      go_wp2_with (at_builtin; go_loud (refine wpList_appB _ rfl (.tmp 32) (.tmp 39) 22 rfl w.heap.size 5 i0 Tryd.underlying22 Hi.out _ _ rfl (Hr.out.alloc _) _ _ 1 1 [UInt8.ofNat (N / 256 ^ m % 256)] rfl rfl (ReadB.lit1 _ _ _ _ (by rw [shr_and N m (by omega)]; simp)) (by rw [Hlen.out]; simp; omega) (by have := Hb.out.size; simp; omega) ?_); intro v' w1 hown1 hg1 hat1 hbw1)
      have hj1 : ((m : Int) - 1) = 1 - 1 - ((j + 1 : Nat) : Int) := by have := Hm.out; omega
      refine ⟨⟨j + 1, by omega, by rw [hj1], ?_, (Hb.out.alloc Hb.out.size _).trans hbw1⟩, by simp [intOf]⟩
      rw [be_take_succ N 1 j hjl, ← Hby.out]
      exact hown1

set_option maxHeartbeats 400000 in
theorem rputIn_2 (N : Nat) (hN : (N : Int) < lim 2) (w : World) : Calls Tryd.prog 73 #[.int .i64 (N : Int), .int .i64 2] w
    fun e w' => ∃ v, e = .returned (.tuple #[v, .int .i64 0]) ∧ OwnB w' w.heap.size 5 v (enc N 2) ∧ Below w.heap.size w w' := by
  have HN := Lib.hid hN
  simp only [lim] at hN
  have hk : W4 2 := by simp [W4]
  obtain ⟨i0, hi0⟩ := isByte_of info5
  have Hi := Lib.hid hi0
  clear hi0
  go_enter Tryd.func73, Tryd.ntmps73
  go_wp2_with (go_at_call 83; refine (room_yes (N : Int) 2 (by omega) hk HN.out _).mono ?_; rintro e w2 ⟨rfl, rfl⟩)
  go_loopw [6, 7] (fun o i wr => ∃ j : Nat, j ≤ 2 ∧ i = .int .i64 (2 - 1 - (j : Int)) ∧ OwnB wr w.heap.size 5 o ((be 2 N).take j) ∧ Below w.heap.size w wr) (fun _ i _ => (intOf i + 1).toNat)
  case atStart => exact ⟨0, by omega, by simp, OwnB.nil, Below.refl _ _⟩
  case round =>
    obtain ⟨j, hj, rfl, hrj, hbj⟩ := hrel
    by_cases hjk : j = 2
    · have e : (be 2 N).take j = be 2 N := List.take_of_length_le (by rw [be_length]; omega)
      rw [e] at hrj
      clear e
      subst hjk
      have hl8 := be_length 2 N
      obtain ⟨g, c, rfl, hge, hgl, hlc, hcm⟩ := hrj.row (by omega)
      have hc0 := hrj.cell (k := 0) (by omega)
      have hf0 := hrj.frz 0
      rw [be_head N 2 (by omega), UInt8.toNat_ofNat'] at hc0
      obtain ⟨V, hV⟩ : ∃ V : Nat, V = N / 256 ^ (2 - 1) % 256 := ⟨_, rfl⟩
      rw [show (2 : Nat) ^ 8 = 256 from rfl, ← hV] at hc0
      have hV2 : V < 256 := by rw [hV]; exact Nat.mod_lt _ (by omega)
      have HV := Lib.hid hV
      have Hb := Lib.hid hbj
      have Hr := Lib.hid hrj
      rw [hl8] at Hr hlc ⊢
      clear hV hbj hrj hl8
      go_wp2
      go_region_with (go_at_call 84; refine (bits_calls 2 hk _).mono ?_; rintro e w' ⟨rfl, rfl⟩)
      all_goals
        go_wp2
        go_ret2
        have hsum : (V + tag 2 * 64 : Nat) < 256 := by
          have e : V = N / 256 ^ 1 := by rw [HV.out]; exact Nat.mod_eq_of_lt (by simp; omega)
          simp [tag]; simp at e; omega
        have hr2 : OwnB wr w.heap.size 5 (.slice (some ⟨g, 0, none⟩) (be 2 N).length c) (be 2 N) := by rw [be_length]; exact Hr.out
        have hs1 := hr2.put 0 (V + tag 2 * 64) hsum
        have e2 : (be 2 N).set 0 (UInt8.ofNat (V + tag 2 * 64)) = enc N 2 := by rw [HV.out]; exact be_add_enc N 2 hk HN.out
        rw [e2, be_length] at hs1
        have e3 : IntKind.u8.wrap ((V : Int) + (tag 2 : Int) * 64) = ((V + tag 2 * 64 : Nat) : Int) := by rw [IntWalk.u8_in _ (by omega)]; omega
        refine ⟨.slice (some ⟨g, 0, none⟩) 2 c, rfl, ?_, ?_⟩
        · rw [e3]; exact hs1.drew
        · exact (Hb.out.setCell hge _).drew
    · have hjl : j < 2 := by omega
      obtain ⟨m, hm⟩ : ∃ m : Nat, (2 : Int) - 1 - (j : Int) = m := ⟨2 - 1 - j, by omega⟩
      have hm8 : m ≤ 7 := by omega
      rw [hm]
      have Hm := Lib.hid hm
      clear hm
      have hby : UInt8.ofNat (N / 256 ^ m % 256) = UInt8.ofNat (N / 256 ^ (2 - 1 - j)) := by
        have : m = 2 - 1 - j := by have := Hm.out; omega
        rw [this]
        exact UInt8.toNat_inj.1 (by simp)
      have Hby := Lib.hid hby
      have hlen : ((be 2 N).take j).length = j := by simp [be_length]; omega
      have Hlen := Lib.hid hlen
      have Hb := Lib.hid hbj
      have Hr := Lib.hid hrj
      clear hby hlen hbj hrj
      go_wp2_with (at_builtin; go_loud (refine wpList_appB _ rfl (.tmp 32) (.tmp 39) 22 rfl w.heap.size 5 i0 Tryd.underlying22 Hi.out _ _ rfl (Hr.out.alloc _) _ _ 1 1 [UInt8.ofNat (N / 256 ^ m % 256)] rfl rfl (ReadB.lit1 _ _ _ _ (by rw [shr_and N m (by omega)]; simp)) (by rw [Hlen.out]; simp; omega) (by have := Hb.out.size; simp; omega) ?_); intro v' w1 hown1 hg1 hat1 hbw1)
      have hj1 : ((m : Int) - 1) = 2 - 1 - ((j + 1 : Nat) : Int) := by have := Hm.out; omega
      refine ⟨⟨j + 1, by omega, by rw [hj1], ?_, (Hb.out.alloc Hb.out.size _).trans hbw1⟩, by simp [intOf]⟩
      rw [be_take_succ N 2 j hjl, ← Hby.out]
      exact hown1

set_option maxHeartbeats 400000 in
theorem rputIn_4 (N : Nat) (hN : (N : Int) < lim 4) (w : World) : Calls Tryd.prog 73 #[.int .i64 (N : Int), .int .i64 4] w
    fun e w' => ∃ v, e = .returned (.tuple #[v, .int .i64 0]) ∧ OwnB w' w.heap.size 5 v (enc N 4) ∧ Below w.heap.size w w' := by
  have HN := Lib.hid hN
  simp only [lim] at hN
  have hk : W4 4 := by simp [W4]
  obtain ⟨i0, hi0⟩ := isByte_of info5
  have Hi := Lib.hid hi0
  clear hi0
  go_enter Tryd.func73, Tryd.ntmps73
  go_wp2_with (go_at_call 83; refine (room_yes (N : Int) 4 (by omega) hk HN.out _).mono ?_; rintro e w2 ⟨rfl, rfl⟩)
  go_loopw [6, 7] (fun o i wr => ∃ j : Nat, j ≤ 4 ∧ i = .int .i64 (4 - 1 - (j : Int)) ∧ OwnB wr w.heap.size 5 o ((be 4 N).take j) ∧ Below w.heap.size w wr) (fun _ i _ => (intOf i + 1).toNat)
  case atStart => exact ⟨0, by omega, by simp, OwnB.nil, Below.refl _ _⟩
  case round =>
    obtain ⟨j, hj, rfl, hrj, hbj⟩ := hrel
    by_cases hjk : j = 4
    · have e : (be 4 N).take j = be 4 N := List.take_of_length_le (by rw [be_length]; omega)
      rw [e] at hrj
      clear e
      subst hjk
      have hl8 := be_length 4 N
      obtain ⟨g, c, rfl, hge, hgl, hlc, hcm⟩ := hrj.row (by omega)
      have hc0 := hrj.cell (k := 0) (by omega)
      have hf0 := hrj.frz 0
      rw [be_head N 4 (by omega), UInt8.toNat_ofNat'] at hc0
      obtain ⟨V, hV⟩ : ∃ V : Nat, V = N / 256 ^ (4 - 1) % 256 := ⟨_, rfl⟩
      rw [show (2 : Nat) ^ 8 = 256 from rfl, ← hV] at hc0
      have hV2 : V < 256 := by rw [hV]; exact Nat.mod_lt _ (by omega)
      have HV := Lib.hid hV
      have Hb := Lib.hid hbj
      have Hr := Lib.hid hrj
      rw [hl8] at Hr hlc ⊢
      clear hV hbj hrj hl8
      go_wp2
      go_region_with (go_at_call 84; refine (bits_calls 4 hk _).mono ?_; rintro e w' ⟨rfl, rfl⟩)
      all_goals
        go_wp2
        go_ret2
        have hsum : (V + tag 4 * 64 : Nat) < 256 := by
          have e : V = N / 256 ^ 3 := by rw [HV.out]; exact Nat.mod_eq_of_lt (by simp; omega)
          simp [tag]; simp at e; omega
        have hr2 : OwnB wr w.heap.size 5 (.slice (some ⟨g, 0, none⟩) (be 4 N).length c) (be 4 N) := by rw [be_length]; exact Hr.out
        have hs1 := hr2.put 0 (V + tag 4 * 64) hsum
        have e2 : (be 4 N).set 0 (UInt8.ofNat (V + tag 4 * 64)) = enc N 4 := by rw [HV.out]; exact be_add_enc N 4 hk HN.out
        rw [e2, be_length] at hs1
        have e3 : IntKind.u8.wrap ((V : Int) + (tag 4 : Int) * 64) = ((V + tag 4 * 64 : Nat) : Int) := by rw [IntWalk.u8_in _ (by omega)]; omega
        refine ⟨.slice (some ⟨g, 0, none⟩) 4 c, rfl, ?_, ?_⟩
        · rw [e3]; exact hs1.drew
        · exact (Hb.out.setCell hge _).drew
    · have hjl : j < 4 := by omega
      obtain ⟨m, hm⟩ : ∃ m : Nat, (4 : Int) - 1 - (j : Int) = m := ⟨4 - 1 - j, by omega⟩
      have hm8 : m ≤ 7 := by omega
      rw [hm]
      have Hm := Lib.hid hm
      clear hm
      have hby : UInt8.ofNat (N / 256 ^ m % 256) = UInt8.ofNat (N / 256 ^ (4 - 1 - j)) := by
        have : m = 4 - 1 - j := by have := Hm.out; omega
        rw [this]
        exact UInt8.toNat_inj.1 (by simp)
      have Hby := Lib.hid hby
      have hlen : ((be 4 N).take j).length = j := by simp [be_length]; omega
      have Hlen := Lib.hid hlen
      have Hb := Lib.hid hbj
      have Hr := Lib.hid hrj
      clear hby hlen hbj hrj
      go_wp2_with (at_builtin; go_loud (refine wpList_appB _ rfl (.tmp 32) (.tmp 39) 22 rfl w.heap.size 5 i0 Tryd.underlying22 Hi.out _ _ rfl (Hr.out.alloc _) _ _ 1 1 [UInt8.ofNat (N / 256 ^ m % 256)] rfl rfl (ReadB.lit1 _ _ _ _ (by rw [shr_and N m (by omega)]; simp)) (by rw [Hlen.out]; simp; omega) (by have := Hb.out.size; simp; omega) ?_); intro v' w1 hown1 hg1 hat1 hbw1)
      have hj1 : ((m : Int) - 1) = 4 - 1 - ((j + 1 : Nat) : Int) := by have := Hm.out; omega
      refine ⟨⟨j + 1, by omega, by rw [hj1], ?_, (Hb.out.alloc Hb.out.size _).trans hbw1⟩, by simp [intOf]⟩
      rw [be_take_succ N 4 j hjl, ← Hby.out]
      exact hown1

set_option maxHeartbeats 400000 in
theorem rputIn_8 (N : Nat) (hN : (N : Int) < lim 8) (w : World) : Calls Tryd.prog 73 #[.int .i64 (N : Int), .int .i64 8] w
    fun e w' => ∃ v, e = .returned (.tuple #[v, .int .i64 0]) ∧ OwnB w' w.heap.size 5 v (enc N 8) ∧ Below w.heap.size w w' := by
  have HN := Lib.hid hN
  simp only [lim] at hN
  have hk : W4 8 := by simp [W4]
  obtain ⟨i0, hi0⟩ := isByte_of info5
  have Hi := Lib.hid hi0
  clear hi0
  go_enter Tryd.func73, Tryd.ntmps73
  go_wp2_with (go_at_call 83; refine (room_yes (N : Int) 8 (by omega) hk HN.out _).mono ?_; rintro e w2 ⟨rfl, rfl⟩)
  go_loopw [6, 7] (fun o i wr => ∃ j : Nat, j ≤ 8 ∧ i = .int .i64 (8 - 1 - (j : Int)) ∧ OwnB wr w.heap.size 5 o ((be 8 N).take j) ∧ Below w.heap.size w wr) (fun _ i _ => (intOf i + 1).toNat)
  case atStart => exact ⟨0, by omega, by simp, OwnB.nil, Below.refl _ _⟩
  case round =>
    obtain ⟨j, hj, rfl, hrj, hbj⟩ := hrel
    by_cases hjk : j = 8
    · have e : (be 8 N).take j = be 8 N := List.take_of_length_le (by rw [be_length]; omega)
      rw [e] at hrj
      clear e
      subst hjk
      have hl8 := be_length 8 N
      obtain ⟨g, c, rfl, hge, hgl, hlc, hcm⟩ := hrj.row (by omega)
      have hc0 := hrj.cell (k := 0) (by omega)
      have hf0 := hrj.frz 0
      rw [be_head N 8 (by omega), UInt8.toNat_ofNat'] at hc0
      obtain ⟨V, hV⟩ : ∃ V : Nat, V = N / 256 ^ (8 - 1) % 256 := ⟨_, rfl⟩
      rw [show (2 : Nat) ^ 8 = 256 from rfl, ← hV] at hc0
      have hV2 : V < 256 := by rw [hV]; exact Nat.mod_lt _ (by omega)
      have HV := Lib.hid hV
      have Hb := Lib.hid hbj
      have Hr := Lib.hid hrj
      rw [hl8] at Hr hlc ⊢
      clear hV hbj hrj hl8
      go_wp2
      go_region_with (go_at_call 84; refine (bits_calls 8 hk _).mono ?_; rintro e w' ⟨rfl, rfl⟩)
      all_goals
        go_wp2
        go_ret2
        have hsum : (V + tag 8 * 64 : Nat) < 256 := by
          have e : V = N / 256 ^ 7 := by rw [HV.out]; exact Nat.mod_eq_of_lt (by simp; omega)
          simp [tag]; simp at e; omega
        have hr2 : OwnB wr w.heap.size 5 (.slice (some ⟨g, 0, none⟩) (be 8 N).length c) (be 8 N) := by rw [be_length]; exact Hr.out
        have hs1 := hr2.put 0 (V + tag 8 * 64) hsum
        have e2 : (be 8 N).set 0 (UInt8.ofNat (V + tag 8 * 64)) = enc N 8 := by rw [HV.out]; exact be_add_enc N 8 hk HN.out
        rw [e2, be_length] at hs1
        have e3 : IntKind.u8.wrap ((V : Int) + (tag 8 : Int) * 64) = ((V + tag 8 * 64 : Nat) : Int) := by rw [IntWalk.u8_in _ (by omega)]; omega
        refine ⟨.slice (some ⟨g, 0, none⟩) 8 c, rfl, ?_, ?_⟩
        · rw [e3]; exact hs1.drew
        · exact (Hb.out.setCell hge _).drew
    · have hjl : j < 8 := by omega
      obtain ⟨m, hm⟩ : ∃ m : Nat, (8 : Int) - 1 - (j : Int) = m := ⟨8 - 1 - j, by omega⟩
      have hm8 : m ≤ 7 := by omega
      rw [hm]
      have Hm := Lib.hid hm
      clear hm
      have hby : UInt8.ofNat (N / 256 ^ m % 256) = UInt8.ofNat (N / 256 ^ (8 - 1 - j)) := by
        have : m = 8 - 1 - j := by have := Hm.out; omega
        rw [this]
        exact UInt8.toNat_inj.1 (by simp)
      have Hby := Lib.hid hby
      have hlen : ((be 8 N).take j).length = j := by simp [be_length]; omega
      have Hlen := Lib.hid hlen
      have Hb := Lib.hid hbj
      have Hr := Lib.hid hrj
      clear hby hlen hbj hrj
      go_wp2_with (at_builtin; go_loud (refine wpList_appB _ rfl (.tmp 32) (.tmp 39) 22 rfl w.heap.size 5 i0 Tryd.underlying22 Hi.out _ _ rfl (Hr.out.alloc _) _ _ 1 1 [UInt8.ofNat (N / 256 ^ m % 256)] rfl rfl (ReadB.lit1 _ _ _ _ (by rw [shr_and N m (by omega)]; simp)) (by rw [Hlen.out]; simp; omega) (by have := Hb.out.size; simp; omega) ?_); intro v' w1 hown1 hg1 hat1 hbw1)
      have hj1 : ((m : Int) - 1) = 8 - 1 - ((j + 1 : Nat) : Int) := by have := Hm.out; omega
      refine ⟨⟨j + 1, by omega, by rw [hj1], ?_, (Hb.out.alloc Hb.out.size _).trans hbw1⟩, by simp [intOf]⟩
      rw [be_take_succ N 8 j hjl, ← Hby.out]
      exact hown1

set_option maxHeartbeats 400000 in
theorem rputIn_calls (n d : Int) (hn : n ≤ 9223372036854775807) (w : World) : Calls Tryd.prog 73 #[.int .i64 n, .int .i64 d] w
    fun e w' => ∃ v, e = .returned (.tuple #[v, .int .i64 (putIn n d).2]) ∧ OwnB w' w.heap.size 5 v (putIn n d).1 ∧ Below w.heap.size w w' := by
  by_cases hd : d = 1 ∨ d = 2 ∨ d = 4 ∨ d = 8
  · obtain ⟨k, rfl, hk⟩ : ∃ k : Nat, d = (k : Int) ∧ W4 k := ⟨d.toNat, by omega, by unfold W4; omega⟩
    have hk8 : 1 ≤ k ∧ k ≤ 8 := by rcases hk with rfl | rfl | rfl | rfl <;> omega
    by_cases hf : n < 0 ∨ lim k ≤ n
    · have hp : putIn n k = ([], 13) := by unfold putIn; rw [if_neg (by rw [Classical.not_not]; exact hd), if_pos (by simpa using hf)]
      have Hp := Lib.hid hp
      clear hp
      rcases hd with hd | hd | hd | hd
      all_goals
        have hkk := hd
        rw [show (k : Int) = _ from hd]
        have hrn : ∀ W, Calls Tryd.prog 83 #[.int .i64 n, .int .i64 (k : Int)] W fun e w' => e = .returned (.bool false) ∧ W = w' := fun W => room_no n k hn hk hf W
        rw [hd] at hrn
        have Hr := Lib.hid hrn
        have Hkk := Lib.hid hkk
        clear hrn hd hkk
        go_enter Tryd.func73, Tryd.ntmps73
        go_wp2_with (go_at_call 83; refine (Hr.out _).mono ?_; rintro e w2 ⟨rfl, rfl⟩)
        go_ret2
        have hp2 := Hp.out
        rw [Hkk.out] at hp2
        exact ⟨.slice none 0 0, by rw [hp2]; rfl, by rw [hp2]; exact OwnB.nil, Below.refl _ _⟩
    · have hp : putIn n k = (enc n.toNat k, 0) := putIn_ok n k hk (by omega) (by omega)
      have Hp := Lib.hid hp
      clear hp
      obtain ⟨i0, hi0⟩ := isByte_of info5
      obtain ⟨N, rfl⟩ : ∃ N : Nat, n = (N : Int) := ⟨n.toNat, by omega⟩
      have hN0 : (N : Int) < lim k := by omega
      rw [Hp.out]
      clear hf hd hn
      rcases hk with rfl | rfl | rfl | rfl
      · exact rputIn_1 N hN0 w
      · exact rputIn_2 N hN0 w
      · exact rputIn_4 N hN0 w
      · exact rputIn_8 N hN0 w
  · have hp : putIn n d = ([], 2) := by unfold putIn; rw [if_pos hd]
    have Hp := Lib.hid hp
    clear hp
    simp only [not_or] at hd
    obtain ⟨d1, d2, d4, d8⟩ := hd
    have b1 : (d != 1) = true := by simpa using d1
    have b2 : (d != 2) = true := by simpa using d2
    have b4 : (d != 4) = true := by simpa using d4
    have b8 : (d != 8) = true := by simpa using d8
    clear d1 d2 d4 d8
    go_enter Tryd.func73, Tryd.ntmps73
    go_wp2
    go_ret2
    exact ⟨.slice none 0 0, by rw [Hp.out]; rfl, by rw [Hp.out]; exact OwnB.nil, Below.refl _ _⟩
end Vi
end Go.Proofs.YtcbkhbnemhkheaaDoor
/- What the reference lays and reads of a number of the wire, in its least width. -/
namespace Go.Proofs.YtcbkhbnemhkheaaDoor
namespace Vi
open Go.RowKit Ba Vm
set_option linter.unusedVariables false

set_option maxHeartbeats 400000 in
theorem rput_calls (n : Int) (hn : n ≤ 9223372036854775807) (w : World) : Calls Tryd.prog 57 #[.int .i64 n] w
    fun e w' => ∃ v, e = .returned (.tuple #[v, .int .i64 (put n).2]) ∧ OwnB w' w.heap.size 5 v (put n).1 ∧ Below w.heap.size w w' := by
  have Hp := Lib.hid (put_eq n)
  rcases Nat.eq_zero_or_pos (len n) with h0 | h0
  · have H0 := Lib.hid h0
    clear h0
    go_enter Tryd.func57, Tryd.ntmps57
    go_wp2_with (go_at_call 72; refine (rlen_calls _ hn _).mono ?_; rw [H0.out]; rintro e w1 ⟨rfl, rfl⟩)
    go_ret2
    exact ⟨.slice none 0 0, by rw [Hp.out, if_pos H0.out]; rfl, by rw [Hp.out, if_pos H0.out]; exact OwnB.nil, Below.refl _ _⟩
  · have hz : ((len n : Int) == 0) = false := by rw [beq_eq_false_iff_ne]; omega
    go_enter Tryd.func57, Tryd.ntmps57
    go_wp2_with (first
      | (go_at_call 72; refine (rlen_calls _ hn _).mono ?_; rintro e w1 ⟨rfl, rfl⟩)
      | (go_at_call 73; refine (rputIn_calls _ _ hn _).mono ?_; rintro e w2 ⟨v, rfl, ho, hb2⟩))
    go_ret2
    have hz : ¬ len n = 0 := by omega
    exact ⟨v, by rw [Hp.out, if_neg hz]; rfl, by rw [Hp.out, if_neg hz]; exact ho, hb2⟩

set_option maxHeartbeats 800000 in
theorem rget_calls (l : List UInt8) (A : Option Addr) (c B : Nat) (w : World) (h : ReadB w B A l) (hlc : l.length ≤ c) (hcm : c ≤ 9223372036854775807) :
    Calls Tryd.prog 75 #[.slice A l.length c] w fun e w' => e = .returned (.tuple #[.int .i64 (get l).1, .int .i64 (get l).2.1, .int .i64 (get l).2.2]) ∧ w = w' := by
  rcases l with _ | ⟨b, r⟩
  · go_enter Tryd.func75, Tryd.ntmps75
    go_wp2
    go_ret3
    exact ⟨rfl, rfl⟩
  · obtain ⟨ab, ao, rfl, hb, hc0⟩ := h.head (by simp)
    simp only [List.getD_cons_zero] at hc0
    have hb8 := u8_lt b
    have hn : r.length + 1 ≤ c := hlc
    go_enter Tryd.func75, Tryd.ntmps75
    go_wp2
    go_loop [5, 6] (fun x i => ∃ (k : Nat) (X : Int), k ≤ b.toNat / 64 ∧ i = .int .i64 k ∧ x = .int .i64 X ∧ Hid (X = ((2 ^ k : Nat) : Int)) ∧ 1 ≤ X ∧ X ≤ 8 ∧ (k < b.toNat / 64 → X ≤ 4)) (fun _ i => 4 - (intOf i).toNat)
    case atStart => exact ⟨0, 1, by omega, rfl, rfl, rfl, by omega, by omega, by omega⟩
    case round =>
      obtain ⟨k, X, hk, rfl, rfl, HX, hx1, hx8, hx4⟩ := hrel
      by_cases hkk : k < b.toNat / 64
      · have hx4 := hx4 hkk
        go_wp2
        refine ⟨⟨k + 1, 2 * X, by omega, by go_num, rfl, ?_, by omega, by omega, ?_⟩, by simp [intOf]; omega⟩
        · have := HX.out; show 2 * X = _; rw [Nat.pow_succ]; omega
        · intro h3
          have : k = 0 ∨ k = 1 := by omega
          have := HX.out
          rcases ‹k = 0 ∨ k = 1› with rfl | rfl <;> simp at this <;> omega
      · clear hx4
        have hke : k = b.toNat / 64 := by omega
        have hw8 : X = ((w8 b : Nat) : Int) := by rw [HX.out, hke]; rfl
        by_cases hlt : (b :: r).length < w8 b
        · have hg := Lib.hid (get_lt b r hlt)
          rw [List.length_cons] at hlt
          have hlt2 : (r.length : Int) + 1 < X := by omega
          clear hke
          have HW := Lib.hid hw8
          clear hw8
          go_wp2
          go_ret3
          exact ⟨by rw [hg.out]; rfl, rfl⟩
        · have hg := Lib.hid (get_ge b r hlt)
          rw [List.length_cons] at hlt
          have hlt2 : X ≤ (r.length : Int) + 1 := by omega
          clear hke
          have HW := Lib.hid hw8
          clear hw8
          go_wp2
          go_loop [7, 8] (fun n i => ∃ j : Nat, (j : Int) + 1 ≤ X ∧ i = .int .i64 ((j : Int) + 1) ∧ n = .int .i64 (val (b.toNat % 64) (r.take j))) (fun _ i => 9 - (intOf i).toNat)
          case atStart => exact ⟨0, by omega, rfl, by simp [val]⟩
          case round =>
            obtain ⟨j, hj, rfl, rfl⟩ := hrel
            by_cases hjx : (j : Int) + 1 < X
            · have hce : w.cell? ⟨ab, ao + (j + 1), none⟩ = some (.int .u8 ((r.getD j 0).toNat : Int)) := by
                obtain ⟨_, _, e1, _, h2⟩ := h (by simp)
                injection e1 with e1
                injection e1 with e1 e2
                subst e1 e2
                exact h2 (j + 1) (by simp; omega)
              have hv := val_small b r j (by omega)
              have hvs := Lib.hid (val_snoc (b.toNat % 64) r j (by omega))
              have hc8 := u8_lt (r.getD j 0)
              generalize val (b.toNat % 64) (r.take j) = V at hv hvs
              generalize (r.getD j 0).toNat = Cc at hce hvs hc8
              go_wp2
              refine ⟨⟨j + 1, by omega, by go_num, ?_⟩, by simp [intOf]; omega⟩
              rw [hvs.out]
              go_num
            · go_wp2
              go_ret3
              have hj1 : j = w8 b - 1 := by have := HW.out; omega
              subst hj1
              have hX := HW.out
              exact ⟨by rw [hg.out, ← hX]; rfl, rfl⟩

set_option maxHeartbeats 400000 in
theorem rshortest_calls (l : List UInt8) (A : Option Addr) (c B : Nat) (w : World) (h : ReadB w B A l) (hlc : l.length ≤ c) (hcm : c ≤ 9223372036854775807) :
    Calls Tryd.prog 60 #[.slice A l.length c] w fun e w' => e = .returned (.tuple #[.int .i64 (shortest l).1, .int .i64 (shortest l).2.1, .int .i64 (shortest l).2.2]) ∧ w = w' := by
  have hbd := get_bound l
  have hg : ∃ n u e, get l = (n, u, e) := ⟨_, _, _, rfl⟩
  obtain ⟨n, u, e0, hg⟩ := hg
  rw [hg] at hbd
  simp only at hbd
  obtain ⟨h1, h2, h3⟩ := hbd
  have Hg := Lib.hid hg
  clear hg
  have hsh : shortest l = if e0 ≠ 0 then (0, 0, e0) else if len n < u then (0, 0, 4) else (n, u, e0) := by
    have e := Hg.out
    unfold shortest
    rw [e]
  have Hs := Lib.hid hsh
  clear hsh
  rcases h3 with rfl | rfl
  · obtain ⟨hu, hul⟩ := h2 rfl
    clear h2
    by_cases hlt : len n < u
    · have hlt' : decide ((len n : Int) < (u : Int)) = true := by simpa using hlt
      go_enter Tryd.func60, Tryd.ntmps60
      go_wp2_with (first
        | (go_at_call 75; refine (rget_calls l A c B _ h hlc hcm).mono ?_; rw [Hg.out]; rintro e w1 ⟨rfl, rfl⟩)
        | (go_at_call 72; refine (rlen_calls _ (by omega) _).mono ?_; rintro e w1 ⟨rfl, rfl⟩))
      go_ret3
      exact ⟨by rw [Hs.out, if_neg (by simp), if_pos hlt]; rfl, rfl⟩
    · have hlt' : decide ((len n : Int) < (u : Int)) = false := by simpa using hlt
      go_enter Tryd.func60, Tryd.ntmps60
      go_wp2_with (first
        | (go_at_call 75; refine (rget_calls l A c B _ h hlc hcm).mono ?_; rw [Hg.out]; rintro e w1 ⟨rfl, rfl⟩)
        | (go_at_call 72; refine (rlen_calls _ (by omega) _).mono ?_; rintro e w1 ⟨rfl, rfl⟩))
      go_ret3
      exact ⟨by rw [Hs.out, if_neg (by simp), if_neg hlt]; rfl, rfl⟩
  · go_enter Tryd.func60, Tryd.ntmps60
    go_wp2_with (go_at_call 75; refine (rget_calls l A c B _ h hlc hcm).mono ?_; rw [Hg.out]; rintro e w1 ⟨rfl, rfl⟩)
    go_ret3
    exact ⟨by rw [Hs.out, if_pos (by simp)]; rfl, rfl⟩
end Vi
end Go.Proofs.YtcbkhbnemhkheaaDoor

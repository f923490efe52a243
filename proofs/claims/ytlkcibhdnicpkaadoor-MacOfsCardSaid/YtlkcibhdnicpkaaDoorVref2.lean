/- What the reference lays of a number of the wire: the same bytes as the program. -/
import Derived.Test.YtlkcibhdnicpkaaDoorVref
import Derived.Deep.RegionWith
namespace Go.Proofs.YtlkcibhdnicpkaaDoor
namespace Vi
open Go.RowKit Ba Vm
set_option linter.unusedVariables false

theorem room_reg (N k : Nat) (h : N / 256 ^ k % 256 < 256) : UInt8.ofNat (N / 256 ^ k % 256) = UInt8.ofNat (N / 256 ^ k) := UInt8.toNat_inj.1 (by simp)

set_option maxHeartbeats 400000 in
theorem rputIn_1 (N : Nat) (hN : (N : Int) < lim 1) (w : World) : Calls Tryd.prog 69 #[.int .i64 (N : Int), .int .i64 1] w
    fun e w' => ∃ v, e = .returned (.tuple #[v, .int .i64 0]) ∧ OwnB w' w.heap.size 5 v (enc N 1) ∧ Below w.heap.size w w' := by
  have HN := Lib.hid hN
  simp only [lim] at hN
  have hk : W4 1 := by simp [W4]
  obtain ⟨i0, hi0⟩ := isByte_of info5
  have Hi := Lib.hid hi0
  clear hi0
  go_enter Tryd.func69, Tryd.ntmps69
  go_wp2_with (go_at_call 73; refine (room_yes (N : Int) 1 (by omega) hk HN.out _).mono ?_; rintro e w2 ⟨rfl, rfl⟩)
  go_loopw [6, 7] (fun o i wr => ∃ j : Nat, j ≤ 1 ∧ i = .int .i64 (1 - 1 - (j : Int)) ∧ OwnB wr w.heap.size 5 o ((be 1 N).take j) ∧ Below w.heap.size w wr) (fun _ i _ => (intOf i + 1).toNat)
  case atStart => exact ⟨0, by omega, by simp, OwnB.nil, Below.refl _ _⟩
  case round =>
    obtain ⟨j, hj, rfl, hrj, hbj⟩ := hrel
    by_cases hjk : j = 1
    · have e : (be 1 N).take j = be 1 N := List.take_of_length_le (by rw [be_length]; omega)
      rw [e] at hrj
      clear e
      subst hjk
      have hl8 := be_length 1 N
      obtain ⟨g, c, rfl, hge, hgl, hlc, hcm⟩ := hrj.row (by omega)
      have hc0 := hrj.cell (k := 0) (by omega)
      have hf0 := hrj.frz 0
      rw [be_head N 1 (by omega), UInt8.toNat_ofNat'] at hc0
      obtain ⟨V, hV⟩ : ∃ V : Nat, V = N / 256 ^ (1 - 1) % 256 := ⟨_, rfl⟩
      rw [show (2 : Nat) ^ 8 = 256 from rfl, ← hV] at hc0
      have hV2 : V < 256 := by rw [hV]; exact Nat.mod_lt _ (by omega)
      have HV := Lib.hid hV
      have Hb := Lib.hid hbj
      have Hr := Lib.hid hrj
      rw [hl8] at Hr hlc ⊢
      clear hV hbj hrj hl8
      go_wp2
      go_region_with (go_at_call 74; refine (bits_calls 1 hk _).mono ?_; rintro e w' ⟨rfl, rfl⟩)
      all_goals
        go_wp2
        go_ret2
        have hsum : (V + tag 1 * 64 : Nat) < 256 := by
          have e : V = N / 256 ^ 0 := by rw [HV.out]; exact Nat.mod_eq_of_lt (by simp; omega)
          simp [tag]; simp at e; omega
        have hr2 : OwnB wr w.heap.size 5 (.slice (some ⟨g, 0, none⟩) (be 1 N).length c) (be 1 N) := by rw [be_length]; exact Hr.out
        have hs1 := hr2.put 0 (V + tag 1 * 64) hsum
        have e2 : (be 1 N).set 0 (UInt8.ofNat (V + tag 1 * 64)) = enc N 1 := by rw [HV.out]; exact be_add_enc N 1 hk HN.out
        rw [e2, be_length] at hs1
        have e3 : IntKind.u8.wrap ((V : Int) + (tag 1 : Int) * 64) = ((V + tag 1 * 64 : Nat) : Int) := by rw [IntWalk.u8_in _ (by omega)]; omega
        refine ⟨.slice (some ⟨g, 0, none⟩) 1 c, rfl, ?_, ?_⟩
        · rw [e3]; exact hs1.drew
        · exact (Hb.out.setCell hge _).drew
    · have hjl : j < 1 := by omega
      obtain ⟨m, hm⟩ : ∃ m : Nat, (1 : Int) - 1 - (j : Int) = m := ⟨1 - 1 - j, by omega⟩
      have hm8 : m ≤ 7 := by omega
      rw [hm]
      have Hm := Lib.hid hm
      clear hm
      have hby : UInt8.ofNat (N / 256 ^ m % 256) = UInt8.ofNat (N / 256 ^ (1 - 1 - j)) := by
        have : m = 1 - 1 - j := by have := Hm.out; omega
        rw [this]
        exact UInt8.toNat_inj.1 (by simp)
      have Hby := Lib.hid hby
      have hlen : ((be 1 N).take j).length = j := by simp [be_length]; omega
      have Hlen := Lib.hid hlen
      have Hb := Lib.hid hbj
      have Hr := Lib.hid hrj
      clear hby hlen hbj hrj
      go_wp2_with (at_builtin; go_loud (refine wpList_appB _ rfl (.tmp 32) (.tmp 39) 22 rfl w.heap.size 5 i0 Tryd.underlying22 Hi.out _ _ rfl (Hr.out.alloc _) _ _ 1 1 [UInt8.ofNat (N / 256 ^ m % 256)] rfl rfl (ReadB.lit1 _ _ _ _ (by rw [shr_and N m (by omega)]; simp)) (by rw [Hlen.out]; simp; omega) (by have := Hb.out.size; simp; omega) ?_); intro v' w1 hown1 hg1 hat1 hbw1)
      have hj1 : ((m : Int) - 1) = 1 - 1 - ((j + 1 : Nat) : Int) := by have := Hm.out; omega
      refine ⟨⟨j + 1, by omega, by rw [hj1], ?_, (Hb.out.alloc Hb.out.size _).trans hbw1⟩, by simp [intOf]⟩
      rw [be_take_succ N 1 j hjl, ← Hby.out]
      exact hown1

set_option maxHeartbeats 400000 in
theorem rputIn_2 (N : Nat) (hN : (N : Int) < lim 2) (w : World) : Calls Tryd.prog 69 #[.int .i64 (N : Int), .int .i64 2] w
    fun e w' => ∃ v, e = .returned (.tuple #[v, .int .i64 0]) ∧ OwnB w' w.heap.size 5 v (enc N 2) ∧ Below w.heap.size w w' := by
  have HN := Lib.hid hN
  simp only [lim] at hN
  have hk : W4 2 := by simp [W4]
  obtain ⟨i0, hi0⟩ := isByte_of info5
  have Hi := Lib.hid hi0
  clear hi0
  go_enter Tryd.func69, Tryd.ntmps69
  go_wp2_with (go_at_call 73; refine (room_yes (N : Int) 2 (by omega) hk HN.out _).mono ?_; rintro e w2 ⟨rfl, rfl⟩)
  go_loopw [6, 7] (fun o i wr => ∃ j : Nat, j ≤ 2 ∧ i = .int .i64 (2 - 1 - (j : Int)) ∧ OwnB wr w.heap.size 5 o ((be 2 N).take j) ∧ Below w.heap.size w wr) (fun _ i _ => (intOf i + 1).toNat)
  case atStart => exact ⟨0, by omega, by simp, OwnB.nil, Below.refl _ _⟩
  case round =>
    obtain ⟨j, hj, rfl, hrj, hbj⟩ := hrel
    by_cases hjk : j = 2
    · have e : (be 2 N).take j = be 2 N := List.take_of_length_le (by rw [be_length]; omega)
      rw [e] at hrj
      clear e
      subst hjk
      have hl8 := be_length 2 N
      obtain ⟨g, c, rfl, hge, hgl, hlc, hcm⟩ := hrj.row (by omega)
      have hc0 := hrj.cell (k := 0) (by omega)
      have hf0 := hrj.frz 0
      rw [be_head N 2 (by omega), UInt8.toNat_ofNat'] at hc0
      obtain ⟨V, hV⟩ : ∃ V : Nat, V = N / 256 ^ (2 - 1) % 256 := ⟨_, rfl⟩
      rw [show (2 : Nat) ^ 8 = 256 from rfl, ← hV] at hc0
      have hV2 : V < 256 := by rw [hV]; exact Nat.mod_lt _ (by omega)
      have HV := Lib.hid hV
      have Hb := Lib.hid hbj
      have Hr := Lib.hid hrj
      rw [hl8] at Hr hlc ⊢
      clear hV hbj hrj hl8
      go_wp2
      go_region_with (go_at_call 74; refine (bits_calls 2 hk _).mono ?_; rintro e w' ⟨rfl, rfl⟩)
      all_goals
        go_wp2
        go_ret2
        have hsum : (V + tag 2 * 64 : Nat) < 256 := by
          have e : V = N / 256 ^ 1 := by rw [HV.out]; exact Nat.mod_eq_of_lt (by simp; omega)
          simp [tag]; simp at e; omega
        have hr2 : OwnB wr w.heap.size 5 (.slice (some ⟨g, 0, none⟩) (be 2 N).length c) (be 2 N) := by rw [be_length]; exact Hr.out
        have hs1 := hr2.put 0 (V + tag 2 * 64) hsum
        have e2 : (be 2 N).set 0 (UInt8.ofNat (V + tag 2 * 64)) = enc N 2 := by rw [HV.out]; exact be_add_enc N 2 hk HN.out
        rw [e2, be_length] at hs1
        have e3 : IntKind.u8.wrap ((V : Int) + (tag 2 : Int) * 64) = ((V + tag 2 * 64 : Nat) : Int) := by rw [IntWalk.u8_in _ (by omega)]; omega
        refine ⟨.slice (some ⟨g, 0, none⟩) 2 c, rfl, ?_, ?_⟩
        · rw [e3]; exact hs1.drew
        · exact (Hb.out.setCell hge _).drew
    · have hjl : j < 2 := by omega
      obtain ⟨m, hm⟩ : ∃ m : Nat, (2 : Int) - 1 - (j : Int) = m := ⟨2 - 1 - j, by omega⟩
      have hm8 : m ≤ 7 := by omega
      rw [hm]
      have Hm := Lib.hid hm
      clear hm
      have hby : UInt8.ofNat (N / 256 ^ m % 256) = UInt8.ofNat (N / 256 ^ (2 - 1 - j)) := by
        have : m = 2 - 1 - j := by have := Hm.out; omega
        rw [this]
        exact UInt8.toNat_inj.1 (by simp)
      have Hby := Lib.hid hby
      have hlen : ((be 2 N).take j).length = j := by simp [be_length]; omega
      have Hlen := Lib.hid hlen
      have Hb := Lib.hid hbj
      have Hr := Lib.hid hrj
      clear hby hlen hbj hrj
      go_wp2_with (at_builtin; go_loud (refine wpList_appB _ rfl (.tmp 32) (.tmp 39) 22 rfl w.heap.size 5 i0 Tryd.underlying22 Hi.out _ _ rfl (Hr.out.alloc _) _ _ 1 1 [UInt8.ofNat (N / 256 ^ m % 256)] rfl rfl (ReadB.lit1 _ _ _ _ (by rw [shr_and N m (by omega)]; simp)) (by rw [Hlen.out]; simp; omega) (by have := Hb.out.size; simp; omega) ?_); intro v' w1 hown1 hg1 hat1 hbw1)
      have hj1 : ((m : Int) - 1) = 2 - 1 - ((j + 1 : Nat) : Int) := by have := Hm.out; omega
      refine ⟨⟨j + 1, by omega, by rw [hj1], ?_, (Hb.out.alloc Hb.out.size _).trans hbw1⟩, by simp [intOf]⟩
      rw [be_take_succ N 2 j hjl, ← Hby.out]
      exact hown1

set_option maxHeartbeats 400000 in
theorem rputIn_4 (N : Nat) (hN : (N : Int) < lim 4) (w : World) : Calls Tryd.prog 69 #[.int .i64 (N : Int), .int .i64 4] w
    fun e w' => ∃ v, e = .returned (.tuple #[v, .int .i64 0]) ∧ OwnB w' w.heap.size 5 v (enc N 4) ∧ Below w.heap.size w w' := by
  have HN := Lib.hid hN
  simp only [lim] at hN
  have hk : W4 4 := by simp [W4]
  obtain ⟨i0, hi0⟩ := isByte_of info5
  have Hi := Lib.hid hi0
  clear hi0
  go_enter Tryd.func69, Tryd.ntmps69
  go_wp2_with (go_at_call 73; refine (room_yes (N : Int) 4 (by omega) hk HN.out _).mono ?_; rintro e w2 ⟨rfl, rfl⟩)
  go_loopw [6, 7] (fun o i wr => ∃ j : Nat, j ≤ 4 ∧ i = .int .i64 (4 - 1 - (j : Int)) ∧ OwnB wr w.heap.size 5 o ((be 4 N).take j) ∧ Below w.heap.size w wr) (fun _ i _ => (intOf i + 1).toNat)
  case atStart => exact ⟨0, by omega, by simp, OwnB.nil, Below.refl _ _⟩
  case round =>
    obtain ⟨j, hj, rfl, hrj, hbj⟩ := hrel
    by_cases hjk : j = 4
    · have e : (be 4 N).take j = be 4 N := List.take_of_length_le (by rw [be_length]; omega)
      rw [e] at hrj
      clear e
      subst hjk
      have hl8 := be_length 4 N
      obtain ⟨g, c, rfl, hge, hgl, hlc, hcm⟩ := hrj.row (by omega)
      have hc0 := hrj.cell (k := 0) (by omega)
      have hf0 := hrj.frz 0
      rw [be_head N 4 (by omega), UInt8.toNat_ofNat'] at hc0
      obtain ⟨V, hV⟩ : ∃ V : Nat, V = N / 256 ^ (4 - 1) % 256 := ⟨_, rfl⟩
      rw [show (2 : Nat) ^ 8 = 256 from rfl, ← hV] at hc0
      have hV2 : V < 256 := by rw [hV]; exact Nat.mod_lt _ (by omega)
      have HV := Lib.hid hV
      have Hb := Lib.hid hbj
      have Hr := Lib.hid hrj
      rw [hl8] at Hr hlc ⊢
      clear hV hbj hrj hl8
      go_wp2
      go_region_with (go_at_call 74; refine (bits_calls 4 hk _).mono ?_; rintro e w' ⟨rfl, rfl⟩)
      all_goals
        go_wp2
        go_ret2
        have hsum : (V + tag 4 * 64 : Nat) < 256 := by
          have e : V = N / 256 ^ 3 := by rw [HV.out]; exact Nat.mod_eq_of_lt (by simp; omega)
          simp [tag]; simp at e; omega
        have hr2 : OwnB wr w.heap.size 5 (.slice (some ⟨g, 0, none⟩) (be 4 N).length c) (be 4 N) := by rw [be_length]; exact Hr.out
        have hs1 := hr2.put 0 (V + tag 4 * 64) hsum
        have e2 : (be 4 N).set 0 (UInt8.ofNat (V + tag 4 * 64)) = enc N 4 := by rw [HV.out]; exact be_add_enc N 4 hk HN.out
        rw [e2, be_length] at hs1
        have e3 : IntKind.u8.wrap ((V : Int) + (tag 4 : Int) * 64) = ((V + tag 4 * 64 : Nat) : Int) := by rw [IntWalk.u8_in _ (by omega)]; omega
        refine ⟨.slice (some ⟨g, 0, none⟩) 4 c, rfl, ?_, ?_⟩
        · rw [e3]; exact hs1.drew
        · exact (Hb.out.setCell hge _).drew
    · have hjl : j < 4 := by omega
      obtain ⟨m, hm⟩ : ∃ m : Nat, (4 : Int) - 1 - (j : Int) = m := ⟨4 - 1 - j, by omega⟩
      have hm8 : m ≤ 7 := by omega
      rw [hm]
      have Hm := Lib.hid hm
      clear hm
      have hby : UInt8.ofNat (N / 256 ^ m % 256) = UInt8.ofNat (N / 256 ^ (4 - 1 - j)) := by
        have : m = 4 - 1 - j := by have := Hm.out; omega
        rw [this]
        exact UInt8.toNat_inj.1 (by simp)
      have Hby := Lib.hid hby
      have hlen : ((be 4 N).take j).length = j := by simp [be_length]; omega
      have Hlen := Lib.hid hlen
      have Hb := Lib.hid hbj
      have Hr := Lib.hid hrj
      clear hby hlen hbj hrj
      go_wp2_with (at_builtin; go_loud (refine wpList_appB _ rfl (.tmp 32) (.tmp 39) 22 rfl w.heap.size 5 i0 Tryd.underlying22 Hi.out _ _ rfl (Hr.out.alloc _) _ _ 1 1 [UInt8.ofNat (N / 256 ^ m % 256)] rfl rfl (ReadB.lit1 _ _ _ _ (by rw [shr_and N m (by omega)]; simp)) (by rw [Hlen.out]; simp; omega) (by have := Hb.out.size; simp; omega) ?_); intro v' w1 hown1 hg1 hat1 hbw1)
      have hj1 : ((m : Int) - 1) = 4 - 1 - ((j + 1 : Nat) : Int) := by have := Hm.out; omega
      refine ⟨⟨j + 1, by omega, by rw [hj1], ?_, (Hb.out.alloc Hb.out.size _).trans hbw1⟩, by simp [intOf]⟩
      rw [be_take_succ N 4 j hjl, ← Hby.out]
      exact hown1

set_option maxHeartbeats 400000 in
theorem rputIn_8 (N : Nat) (hN : (N : Int) < lim 8) (w : World) : Calls Tryd.prog 69 #[.int .i64 (N : Int), .int .i64 8] w
    fun e w' => ∃ v, e = .returned (.tuple #[v, .int .i64 0]) ∧ OwnB w' w.heap.size 5 v (enc N 8) ∧ Below w.heap.size w w' := by
  have HN := Lib.hid hN
  simp only [lim] at hN
  have hk : W4 8 := by simp [W4]
  obtain ⟨i0, hi0⟩ := isByte_of info5
  have Hi := Lib.hid hi0
  clear hi0
  go_enter Tryd.func69, Tryd.ntmps69
  go_wp2_with (go_at_call 73; refine (room_yes (N : Int) 8 (by omega) hk HN.out _).mono ?_; rintro e w2 ⟨rfl, rfl⟩)
  go_loopw [6, 7] (fun o i wr => ∃ j : Nat, j ≤ 8 ∧ i = .int .i64 (8 - 1 - (j : Int)) ∧ OwnB wr w.heap.size 5 o ((be 8 N).take j) ∧ Below w.heap.size w wr) (fun _ i _ => (intOf i + 1).toNat)
  case atStart => exact ⟨0, by omega, by simp, OwnB.nil, Below.refl _ _⟩
  case round =>
    obtain ⟨j, hj, rfl, hrj, hbj⟩ := hrel
    by_cases hjk : j = 8
    · have e : (be 8 N).take j = be 8 N := List.take_of_length_le (by rw [be_length]; omega)
      rw [e] at hrj
      clear e
      subst hjk
      have hl8 := be_length 8 N
      obtain ⟨g, c, rfl, hge, hgl, hlc, hcm⟩ := hrj.row (by omega)
      have hc0 := hrj.cell (k := 0) (by omega)
      have hf0 := hrj.frz 0
      rw [be_head N 8 (by omega), UInt8.toNat_ofNat'] at hc0
      obtain ⟨V, hV⟩ : ∃ V : Nat, V = N / 256 ^ (8 - 1) % 256 := ⟨_, rfl⟩
      rw [show (2 : Nat) ^ 8 = 256 from rfl, ← hV] at hc0
      have hV2 : V < 256 := by rw [hV]; exact Nat.mod_lt _ (by omega)
      have HV := Lib.hid hV
      have Hb := Lib.hid hbj
      have Hr := Lib.hid hrj
      rw [hl8] at Hr hlc ⊢
      clear hV hbj hrj hl8
      go_wp2
      go_region_with (go_at_call 74; refine (bits_calls 8 hk _).mono ?_; rintro e w' ⟨rfl, rfl⟩)
      all_goals
        go_wp2
        go_ret2
        have hsum : (V + tag 8 * 64 : Nat) < 256 := by
          have e : V = N / 256 ^ 7 := by rw [HV.out]; exact Nat.mod_eq_of_lt (by simp; omega)
          simp [tag]; simp at e; omega
        have hr2 : OwnB wr w.heap.size 5 (.slice (some ⟨g, 0, none⟩) (be 8 N).length c) (be 8 N) := by rw [be_length]; exact Hr.out
        have hs1 := hr2.put 0 (V + tag 8 * 64) hsum
        have e2 : (be 8 N).set 0 (UInt8.ofNat (V + tag 8 * 64)) = enc N 8 := by rw [HV.out]; exact be_add_enc N 8 hk HN.out
        rw [e2, be_length] at hs1
        have e3 : IntKind.u8.wrap ((V : Int) + (tag 8 : Int) * 64) = ((V + tag 8 * 64 : Nat) : Int) := by rw [IntWalk.u8_in _ (by omega)]; omega
        refine ⟨.slice (some ⟨g, 0, none⟩) 8 c, rfl, ?_, ?_⟩
        · rw [e3]; exact hs1.drew
        · exact (Hb.out.setCell hge _).drew
    · have hjl : j < 8 := by omega
      obtain ⟨m, hm⟩ : ∃ m : Nat, (8 : Int) - 1 - (j : Int) = m := ⟨8 - 1 - j, by omega⟩
      have hm8 : m ≤ 7 := by omega
      rw [hm]
      have Hm := Lib.hid hm
      clear hm
      have hby : UInt8.ofNat (N / 256 ^ m % 256) = UInt8.ofNat (N / 256 ^ (8 - 1 - j)) := by
        have : m = 8 - 1 - j := by have := Hm.out; omega
        rw [this]
        exact UInt8.toNat_inj.1 (by simp)
      have Hby := Lib.hid hby
      have hlen : ((be 8 N).take j).length = j := by simp [be_length]; omega
      have Hlen := Lib.hid hlen
      have Hb := Lib.hid hbj
      have Hr := Lib.hid hrj
      clear hby hlen hbj hrj
      go_wp2_with (at_builtin; go_loud (refine wpList_appB _ rfl (.tmp 32) (.tmp 39) 22 rfl w.heap.size 5 i0 Tryd.underlying22 Hi.out _ _ rfl (Hr.out.alloc _) _ _ 1 1 [UInt8.ofNat (N / 256 ^ m % 256)] rfl rfl (ReadB.lit1 _ _ _ _ (by rw [shr_and N m (by omega)]; simp)) (by rw [Hlen.out]; simp; omega) (by have := Hb.out.size; simp; omega) ?_); intro v' w1 hown1 hg1 hat1 hbw1)
      have hj1 : ((m : Int) - 1) = 8 - 1 - ((j + 1 : Nat) : Int) := by have := Hm.out; omega
      refine ⟨⟨j + 1, by omega, by rw [hj1], ?_, (Hb.out.alloc Hb.out.size _).trans hbw1⟩, by simp [intOf]⟩
      rw [be_take_succ N 8 j hjl, ← Hby.out]
      exact hown1

set_option maxHeartbeats 400000 in
theorem rputIn_calls (n d : Int) (hn : n ≤ 9223372036854775807) (w : World) : Calls Tryd.prog 69 #[.int .i64 n, .int .i64 d] w
    fun e w' => ∃ v, e = .returned (.tuple #[v, .int .i64 (putIn n d).2]) ∧ OwnB w' w.heap.size 5 v (putIn n d).1 ∧ Below w.heap.size w w' := by
  by_cases hd : d = 1 ∨ d = 2 ∨ d = 4 ∨ d = 8
  · obtain ⟨k, rfl, hk⟩ : ∃ k : Nat, d = (k : Int) ∧ W4 k := ⟨d.toNat, by omega, by unfold W4; omega⟩
    have hk8 : 1 ≤ k ∧ k ≤ 8 := by rcases hk with rfl | rfl | rfl | rfl <;> omega
    by_cases hf : n < 0 ∨ lim k ≤ n
    · have hp : putIn n k = ([], 13) := by unfold putIn; rw [if_neg (by rw [Classical.not_not]; exact hd), if_pos (by simpa using hf)]
      have Hp := Lib.hid hp
      clear hp
      rcases hd with hd | hd | hd | hd
      all_goals
        have hkk := hd
        rw [show (k : Int) = _ from hd]
        have hrn : ∀ W, Calls Tryd.prog 73 #[.int .i64 n, .int .i64 (k : Int)] W fun e w' => e = .returned (.bool false) ∧ W = w' := fun W => room_no n k hn hk hf W
        rw [hd] at hrn
        have Hr := Lib.hid hrn
        have Hkk := Lib.hid hkk
        clear hrn hd hkk
        go_enter Tryd.func69, Tryd.ntmps69
        go_wp2_with (go_at_call 73; refine (Hr.out _).mono ?_; rintro e w2 ⟨rfl, rfl⟩)
        go_ret2
        have hp2 := Hp.out
        rw [Hkk.out] at hp2
        exact ⟨.slice none 0 0, by rw [hp2]; rfl, by rw [hp2]; exact OwnB.nil, Below.refl _ _⟩
    · have hp : putIn n k = (enc n.toNat k, 0) := putIn_ok n k hk (by omega) (by omega)
      have Hp := Lib.hid hp
      clear hp
      obtain ⟨i0, hi0⟩ := isByte_of info5
      obtain ⟨N, rfl⟩ : ∃ N : Nat, n = (N : Int) := ⟨n.toNat, by omega⟩
      have hN0 : (N : Int) < lim k := by omega
      rw [Hp.out]
      clear hf hd hn
      rcases hk with rfl | rfl | rfl | rfl
      · exact rputIn_1 N hN0 w
      · exact rputIn_2 N hN0 w
      · exact rputIn_4 N hN0 w
      · exact rputIn_8 N hN0 w
  · have hp : putIn n d = ([], 2) := by unfold putIn; rw [if_pos hd]
    have Hp := Lib.hid hp
    clear hp
    simp only [not_or] at hd
    obtain ⟨d1, d2, d4, d8⟩ := hd
    have b1 : (d != 1) = true := by simpa using d1
    have b2 : (d != 2) = true := by simpa using d2
    have b4 : (d != 4) = true := by simpa using d4
    have b8 : (d != 8) = true := by simpa using d8
    clear d1 d2 d4 d8
    go_enter Tryd.func69, Tryd.ntmps69
    go_wp2
    go_ret2
    exact ⟨.slice none 0 0, by rw [Hp.out]; rfl, by rw [Hp.out]; exact OwnB.nil, Below.refl _ _⟩
end Vi
end Go.Proofs.YtlkcibhdnicpkaaDoor

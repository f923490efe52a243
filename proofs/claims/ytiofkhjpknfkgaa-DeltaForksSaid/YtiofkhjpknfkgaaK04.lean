/- What laying and reading a number of the wire does, of the program. -/
import Derived.Test.YtiofkhjpknfkgaaK01
import Derived.Test.YtiofkhjpknfkgaaK02
import Derived.Test.YtiofkhjpknfkgaaK03
import Derived.Deep.RegionHeld3
import Derived.Below
namespace Go.Proofs.Ytiofkhjpknfkgaa
namespace Vi
open Go.RowKit Ba Vm
set_option linter.unusedVariables false
theorem info5 : (Try.prog.info? 5).map (fun i => (i.zero, i.size, i.bytes)) = some (some (.int .u8 0), 1, 1) := by kernel_rfl
theorem ret2 {a b : Value} {x y : Value} (h : a = x) (h2 : b = y) : Ending.returned (.tuple #[a, b]) = .returned (.tuple #[x, y]) := by rw [h, h2]

set_option maxRecDepth 100000 in
set_option maxHeartbeats 400000 in
theorem putIn_calls (n d : Int) (hn : n ≤ 9223372036854775807) (w : World) : Calls Try.prog 52 #[.int .i64 n, .int .i64 d] w
    fun e w' => ∃ v, e = .returned (.tuple #[v, .int .i64 (putIn n d).2]) ∧ OwnB w' w.heap.size 5 v (putIn n d).1 ∧ Below w.heap.size w w' := by
  by_cases hd : d = 1 ∨ d = 2 ∨ d = 4 ∨ d = 8
  · obtain ⟨k, rfl, hk⟩ : ∃ k : Nat, d = (k : Int) ∧ W4 k := ⟨d.toNat, by omega, by unfold W4; omega⟩
    have ht : tell k = tag k := tell_tag k hk
    have ht3 : tag k ≤ 3 := by rcases hk with rfl | rfl | rfl | rfl <;> simp [tag]
    have hk8 : 1 ≤ k ∧ k ≤ 8 := by rcases hk with rfl | rfl | rfl | rfl <;> omega
    by_cases hf : n < 0 ∨ lim k ≤ n
    · have hp : putIn n k = ([], 13) := by unfold putIn; rw [if_neg (by rw [Classical.not_not]; exact hd), if_pos (by simpa using hf)]
      have Hp := Lib.hid hp
      have Ht := Lib.hid ht
      clear hp ht
      go_enter Try.func52, Try.ntmps52
      go_wp2_with (first
        | (go_at_call 57; refine (tell_calls _ _).mono ?_; rw [Ht.out]; rintro e w1 ⟨rfl, hb1⟩)
        | (go_at_call 56; refine (fits_no n k hn hk hf _).mono ?_; rintro e w2 ⟨rfl, rfl⟩))
      go_ret2
      exact ⟨.slice none 0 0, by rw [Hp.out]; rfl, by rw [Hp.out]; exact OwnB.nil, hb1⟩
    · have hp : putIn n k = (enc n.toNat k, 0) := putIn_ok n k hk (by omega) (by omega)
      have Hp := Lib.hid hp
      have Ht := Lib.hid ht
      clear hp ht
      obtain ⟨i0, hi0, hz0, hz1, hz2⟩ := info_parts info5
      obtain ⟨N, rfl⟩ : ∃ N : Nat, n = (N : Int) := ⟨n.toNat, by omega⟩
      go_enter Try.func52, Try.ntmps52
      go_wp2_with (first
        | (go_at_call 57; refine (tell_calls _ _).mono ?_; rw [Ht.out]; rintro e w1 ⟨rfl, hb1⟩)
        | (go_at_call 56; refine (fits_yes _ k (by omega) hk (by omega) _).mono ?_; rintro e w2 ⟨rfl, rfl⟩)
        | (at_make; go_loud (refine wpList_make_full _ rfl (.tmp 19) (.tmp 19) 22 rfl w.heap.size 5 i0 (.int .u8 0) 1 Try.underlying22 hi0 hz0 hz1 .i64 .i64 _ _ k rfl rfl rfl rfl (by rw [hz2]; omega) (by unfold maxLen; omega) hb1.size ?_); intro w3 hown3 hg3))
      obtain ⟨g, hgq⟩ : ∃ g, g = w1.heap.size := ⟨_, rfl⟩
      rw [← hgq] at hown3
      rw [← hgq]
      have hge : w.heap.size ≤ g := by rw [hgq]; exact hb1.size
      have hb3 : Below w.heap.size w w3 := hb1.grown hg3 hb1.size (by simp)
      have hrow : w3.ownsRow w.heap.size 5 1 (.slice (some ⟨g, 0, none⟩) k k) k (bvs (List.replicate k 0 ++ be 0 N)) := by
        have e : (madeCells (Value.int .u8 0).cells (k * 1)).toList = bvs (List.replicate k 0 ++ be 0 N) := by
          simp [Value.cells, toList_madeCells_one, be, bvs, bv]
        rw [← e]; exact hown3
      clear hown3 hg3 hgq hb1
      go_loopw [0, 8] (fun n i wr => ∃ j : Nat, j ≤ k ∧ i = .int .i64 ((j : Int) - 1) ∧ n = .int .i64 ((N / 256 ^ (k - j) : Nat) : Int) ∧ wr.ownsRow w.heap.size 5 1 (.slice (some ⟨g, 0, none⟩) k k) k (bvs (List.replicate j 0 ++ be (k - j) N)) ∧ Below w.heap.size w wr) (fun _ i _ => (intOf i + 1).toNat)
      case atStart => exact ⟨k, Nat.le_refl _, rfl, by simp, by simpa using hrow, hb3⟩
      case round =>
        obtain ⟨j, hj, rfl, rfl, hrj, hbj⟩ := hrel
        clear hrow hb3
        rcases j with _ | m
        · have hc0 := hrj.cellAt 0 (by omega)
          have hL : bvs (List.replicate 0 0 ++ be (k - 0) N) = bvs (be k N) := by simp
          rw [hL] at hc0 hrj
          clear hL
          have hb0 := bvs_get (be k N) 0 (by rw [be_length]; omega)
          rw [be_head N k (by omega), UInt8.toNat_ofNat'] at hb0
          rw [hb0] at hc0
          clear hb0
          obtain ⟨V, hV⟩ : ∃ V : Nat, V = N / 256 ^ (k - 1) % 256 := ⟨_, rfl⟩
          rw [show (256 : Nat) = 2 ^ 8 from rfl] at hV
          rw [← hV] at hc0
          have hV2 : V < 256 := by rw [hV]; exact Nat.mod_lt _ (by omega)
          have HV := Lib.hid hV
          clear hV
          have hf0 := hrj.frozenAt 0
          go_wp2
          go_ret2
          have hor := u8_or_nat V (tag k * 64) (by omega) (by omega)
          rw [show ((tag k : Int) * 64) = ((tag k * 64 : Nat) : Int) by omega, hor]
          have hor2 : V ||| tag k * 64 < 256 := Nat.or_lt_two_pow (n := 8) (by omega) (by omega)
          obtain ⟨hs1, hs2⟩ := hrj.stored 0 (.int .u8 ((V ||| tag k * 64 : Nat) : Int))
          rw [bvs_set _ _ _ hor2, HV.out, enc_of_be N k hk (by omega)] at hs1
          refine ⟨.slice (some ⟨g, 0, none⟩) k k, by rw [Hp.out]; rfl, ?_, ?_⟩
          · rw [Hp.out, HV.out]
            have e : (enc N k).length = k := enc_length N k
            show World.ownsRow _ _ _ _ _ (enc ((N : Int)).toNat k).length _
            rw [Int.toNat_natCast, e]
            exact hs1
          · exact hbj.setCell hge _
        · have hcm := hrj.cellAt m (by omega)
          have hfm := hrj.frozenAt m
          rw [show (((m + 1 : Nat) : Int) - 1) = (m : Int) from by omega]
          obtain ⟨V, hV⟩ : ∃ V : Nat, V = N / 256 ^ (k - (m + 1)) := ⟨_, rfl⟩
          rw [← hV]
          have HV := Lib.hid hV
          clear hV
          obtain ⟨uu, hu⟩ : ∃ u, (bvs (List.replicate (m + 1) 0 ++ be (k - (m + 1)) N))[m]? = some u := ⟨_, List.getElem?_eq_getElem (by rw [bvs_length]; simp; omega)⟩
          rw [hu] at hcm
          clear hu
          go_wp2
          obtain ⟨hs1, hs2⟩ := hrj.stored m (.int .u8 ((V % 256 : Nat) : Int))
          rw [bvs_set _ _ _ (by omega), HV.out, be_set N k m hj] at hs1
          refine ⟨⟨m, by omega, rfl, ?_, ?_, hbj.setCell hge _⟩, by simp [intOf]⟩
          · rw [HV.out]
            have e : k - m = (k - (m + 1)) + 1 := by omega
            rw [e, Nat.pow_succ, ← Nat.div_div_eq_div_mul]
            simp
          · rw [show ((V : Int) % 256) = ((V % 256 : Nat) : Int) by omega, HV.out]
            exact hs1
  · have ht : tell d = -1 := by unfold tell; simp only [not_or] at hd; simp [hd]
    have hp : putIn n d = ([], 2) := by unfold putIn; rw [if_pos hd]
    have Hp := Lib.hid hp
    have Ht := Lib.hid ht
    clear hp ht
    go_enter Try.func52, Try.ntmps52
    go_wp2_with (go_at_call 57; refine (tell_calls _ _).mono ?_; rw [Ht.out]; rintro e w1 ⟨rfl, hb1⟩)
    go_ret2
    exact ⟨.slice none 0 0, by rw [Hp.out]; rfl, by rw [Hp.out]; exact OwnB.nil, hb1⟩

set_option maxRecDepth 100000 in
set_option maxHeartbeats 400000 in
theorem put_calls (n : Int) (hn : n ≤ 9223372036854775807) (w : World) : Calls Try.prog 46 #[.int .i64 n] w
    fun e w' => ∃ v, e = .returned (.tuple #[v, .int .i64 (put n).2]) ∧ OwnB w' w.heap.size 5 v (put n).1 ∧ Below w.heap.size w w' := by
  have Hp := Lib.hid (put_eq n)
  rcases Nat.eq_zero_or_pos (len n) with h0 | h0
  · have H0 := Lib.hid h0
    clear h0
    go_enter Try.func46, Try.ntmps46
    go_wp2_with (go_at_call 51; refine (len_calls _ hn _).mono ?_; rw [H0.out]; rintro e w1 ⟨rfl, hb1⟩)
    go_ret2
    exact ⟨.slice none 0 0, by rw [Hp.out, if_pos H0.out]; rfl, by rw [Hp.out, if_pos H0.out]; exact OwnB.nil, hb1⟩
  · go_enter Try.func46, Try.ntmps46
    go_wp2_with (first
      | (go_at_call 51; refine (len_calls _ hn _).mono ?_; rintro e w1 ⟨rfl, hb1⟩)
      | (go_at_call 52; refine (putIn_calls _ _ hn _).mono ?_; rintro e w2 ⟨v, rfl, ho, hb2⟩))
    go_ret2
    have hz : ¬ len n = 0 := by omega
    exact ⟨v, by rw [Hp.out, if_neg hz]; rfl, by rw [Hp.out, if_neg hz]; exact ho.weak hb1.size, hb1.trans (hb2.mono hb1.size)⟩

set_option maxRecDepth 100000 in
set_option maxHeartbeats 400000 in
theorem shortest_calls (l : List UInt8) (A : Option Addr) (c B : Nat) (w : World) (h : ReadB w B A l) (hlc : l.length ≤ c) (hcm : c ≤ 9223372036854775807) :
    Calls Try.prog 47 #[.slice A l.length c] w fun e w' => e = .returned (.tuple #[.int .i64 (shortest l).1, .int .i64 (shortest l).2.1, .int .i64 (shortest l).2.2]) ∧ Below w.heap.size w w' := by
  have hbd := get_bound l
  have hg : ∃ n u e, get l = (n, u, e) := ⟨_, _, _, rfl⟩
  obtain ⟨n, u, e0, hg⟩ := hg
  rw [hg] at hbd
  simp only at hbd
  obtain ⟨h1, h2, h3⟩ := hbd
  have Hg := Lib.hid hg
  clear hg
  have hsh : shortest l = if e0 ≠ 0 then (0, 0, e0) else if len n < u then (0, 0, 4) else (n, u, e0) := by
    have e := Hg.out
    unfold shortest
    rw [e]
  have Hs := Lib.hid hsh
  clear hsh
  rcases h3 with rfl | rfl
  · obtain ⟨hu, hul⟩ := h2 rfl
    clear h2
    by_cases hlt : len n < u
    · have hlt' : decide ((len n : Int) < (u : Int)) = true := by simpa using hlt
      go_enter Try.func47, Try.ntmps47
      go_wp2_with (first
        | (go_at_call 53; refine (get_calls l A c B _ h hlc hcm).mono ?_; rw [Hg.out]; rintro e w1 ⟨rfl, rfl⟩)
        | (go_at_call 51; refine (len_calls _ (by omega) _).mono ?_; rintro e w1 ⟨rfl, hb1⟩))
      go_ret3
      exact ⟨by rw [Hs.out, if_neg (by simp), if_pos hlt]; rfl, hb1⟩
    · have hlt' : decide ((len n : Int) < (u : Int)) = false := by simpa using hlt
      go_enter Try.func47, Try.ntmps47
      go_wp2_with (first
        | (go_at_call 53; refine (get_calls l A c B _ h hlc hcm).mono ?_; rw [Hg.out]; rintro e w1 ⟨rfl, rfl⟩)
        | (go_at_call 51; refine (len_calls _ (by omega) _).mono ?_; rintro e w1 ⟨rfl, hb1⟩))
      go_ret3
      exact ⟨by rw [Hs.out, if_neg (by simp), if_neg hlt]; rfl, hb1⟩
  · go_enter Try.func47, Try.ntmps47
    go_wp2_with (go_at_call 53; refine (get_calls l A c B _ h hlc hcm).mono ?_; rw [Hg.out]; rintro e w1 ⟨rfl, rfl⟩)
    go_ret3
    have e := get_err l (by rw [Hg.out]; simp)
    rw [Hg.out] at e
    simp only [Prod.mk.injEq, and_true] at e
    exact ⟨by rw [Hs.out, if_pos (by simp), e.1, e.2]; rfl, Below.refl _ _⟩
end Vi
end Go.Proofs.Ytiofkhjpknfkgaa
/- What laying numbers and texts does, of the program. -/
namespace Go.Proofs.Ytiofkhjpknfkgaa
namespace Fi
open Go.RowKit Ba Vm Fm Vi
set_option linter.unusedVariables false

set_option maxHeartbeats 400000 in
theorem num_calls (n : Int) (hn : n ≤ 9223372036854775807) (w : World) : Calls Try.prog 35 #[.int .i64 n] w
    fun e w' => ∃ v, e = .returned v ∧ OwnB w' w.heap.size 5 v (num n) ∧ Below w.heap.size w w' := by
  have Hn := Lib.hid (num_none n)
  rcases put_snd n with h0 | h0
  · go_enter Try.func35, Try.ntmps35
    go_wp2_with fail
    refine (put_calls n hn _).mono ?_
    rw [h0]
    rintro e w1 ⟨v1, rfl, ho1, hb1⟩
    go_wp2_with fail
    go_ret
    exact ⟨v1, rfl, ho1, hb1⟩
  · have he : num n = [] := Hn.out (by rw [h0]; simp)
    have He := Lib.hid he
    clear he
    go_enter Try.func35, Try.ntmps35
    go_wp2_with fail
    refine (put_calls n hn _).mono ?_
    rw [h0]
    rintro e w1 ⟨v1, rfl, ho1, hb1⟩
    go_wp2_with fail
    go_ret
    exact ⟨.slice none 0 0, rfl, by rw [He.out]; exact OwnB.nil, hb1⟩

set_option maxHeartbeats 400000 in
theorem text_calls (r : List UInt8) (hr : r.length ≤ 140737488351232) (w : World) : Calls Try.prog 36 #[.string (S r)] w
    fun e w' => ∃ v, e = .returned v ∧ OwnB w' w.heap.size 5 v (text r) ∧ Below w.heap.size w w' := by
  obtain ⟨i0, hi0⟩ := isByte_of info5
  have Hi := Lib.hid hi0
  have hl8 := num_len (r.length : Int)
  clear hi0
  go_enter Try.func36, Try.ntmps36
  go_wp2_with (first
    | (go_at_call 35; go_must (refine (num_calls _ (by omega) _).mono ?_); rintro e w1 ⟨v1, rfl, ho1, hb1⟩)
    | (at_builtin; go_loud (refine wpList_appS _ rfl (.tmp 5) (.tmp 6) 22 9 rfl w.heap.size 5 i0 Try.underlying22 Try.underlying9 Hi.out v1 _ rfl ho1 r rfl (by omega) hb1.size ?_); intro v2 w2 hown2 hg2 hbw2))
  go_ret
  exact ⟨v2, rfl, hown2, hb1.trans hbw2⟩

set_option maxHeartbeats 400000 in
theorem grow_calls (n : Nat) (hn : n ≤ 140737488355328) (w : World) : Calls Try.prog 50 #[.slice none 0 0, .int .i64 (n : Int)] w
    fun e w' => ∃ v, e = .returned v ∧ OwnB w' w.heap.size 5 v [] ∧ Below w.heap.size w w' := by
  obtain ⟨i0, hi0⟩ := isByte_of info5
  have Hi := Lib.hid hi0
  clear hi0
  by_cases hz : n = 0
  · subst hz
    go_enter Try.func50, Try.ntmps50
    go_wp2
    go_ret
    exact ⟨.slice none 0 0, rfl, OwnB.nil, Below.refl _ _⟩
  · go_enter Try.func50, Try.ntmps50
    go_wp2_with (at_builtin; go_loud (refine Lib.wpList_append_run _ rfl (.tmp 20) (.tmp 21) 22 3 rfl _ _ rfl rfl _ _ (Lib.run_append_nil_zeros (P := Try.prog) _ 22 3 _ 5 i0 (.int .u8 0) .i64 .i64 Try.underlying22 Try.underlying3 Hi.out.1 Hi.out.2.1 n (by omega) (by rw [Hi.out.2.2.1]; omega) (by omega) (by rw [Hi.out.2.2.2]; omega)) ?_))
    go_ret
    have hge := grownCap_ge w n 0 5
    have hcm : grownCap w n 0 5 ≤ maxLen := grownCap_le_maxLen w n 0 5 (by unfold maxLen; omega)
    refine ⟨_, rfl, ⟨rfl, .inr ⟨w.heap.size, grownCap w n 0 5, _, rfl, Nat.le_refl _, heap_alloc_new w.drew _, Nat.zero_le _, hcm, ?_, by simp [bvs]⟩⟩, ?_⟩
    · have hz1 : (#[Value.int IntKind.u8 0] : Array Value).size = 1 := rfl
      rw [Array.size_append, size_zeroCells, size_zeroCells, hz1]
      omega
    · exact ((Below.refl _ _).drew).alloc (Nat.le_refl _) _

def sumLen : List (List UInt8) → Nat
  | [] => 0
  | p :: ps => p.length + sumLen ps
theorem sumLen_take (ps : List (List UInt8)) (k : Nat) (h : k < ps.length) : sumLen (ps.take (k + 1)) = sumLen (ps.take k) + (ps.getD k []).length := by
  induction ps generalizing k with
  | nil => simp at h
  | cons p ps ih =>
    cases k with
    | zero => simp [sumLen]
    | succ k =>
      have := ih k (by simpa using h)
      simp only [List.take_succ_cons, sumLen, this]
      simp [List.getD]
      omega
theorem sumLen_take_le (ps : List (List UInt8)) (k : Nat) : sumLen (ps.take k) ≤ sumLen ps := by
  induction ps generalizing k with
  | nil => simp
  | cons p ps ih =>
    cases k with
    | zero => simp [sumLen]
    | succ k => have := ih k; simp only [List.take_succ_cons, sumLen]; omega
theorem flatten_len (ps : List (List UInt8)) : ps.flatten.length = sumLen ps := by
  induction ps with
  | nil => rfl
  | cons p ps ih => simp [sumLen, ih]
theorem flatten_take (ps : List (List UInt8)) (k : Nat) (h : k < ps.length) : (ps.take (k + 1)).flatten = (ps.take k).flatten ++ ps.getD k [] := by
  rw [List.take_succ_eq_append_getElem h, List.flatten_append]
  simp [List.getD, h]

set_option maxHeartbeats 800000 in
theorem concat_calls (ps : List (List UInt8)) (A : Option Addr) (c : Nat) (w : World) (h : ReadBB w w.heap.size A ps) (hps : ps.length ≤ 140737488351232) (hsum : sumLen ps ≤ 140737488355328) :
    Calls Try.prog 45 #[.slice A ps.length c] w
    fun e w' => ∃ v, e = .returned v ∧ OwnB w' w.heap.size 5 v ps.flatten ∧ Below w.heap.size w w' := by
  obtain ⟨i0, hi0⟩ := isByte_of info5
  have Hi := Lib.hid hi0
  clear hi0
  go_enter Try.func45, Try.ntmps45
  go_wp2_with fail
  go_loop [3, 11] (fun z i => ∃ k : Nat, k ≤ ps.length ∧ i = .int .i64 k ∧ z = .int .i64 (sumLen (ps.take k))) (fun _ i => ps.length - (intOf i).toNat)
  case atStart => exact ⟨0, Nat.zero_le _, rfl, rfl⟩
  case round =>
    obtain ⟨k, hk, rfl, rfl⟩ := hrel
    by_cases hkl : k < ps.length
    · obtain ⟨b, o, rfl, hb, hc⟩ := h (by omega)
      obtain ⟨Ak, ck, h1, h2, h3, h4⟩ := hc k hkl
      have Hc := Lib.hid hc
      have Hh := Lib.hid h
      have hst := sumLen_take ps k hkl
      have hle := sumLen_take_le ps (k + 1)
      clear hc h
      obtain ⟨p, hp⟩ : ∃ p, p = ps.getD k [] := ⟨_, rfl⟩
      rw [← hp] at h1 h2 h4 hst
      rw [hst] at hle
      have Hst := Lib.hid hst
      clear hp hst
      generalize sumLen (ps.take k) = s1 at Hst hle
      go_wp2
      all_goals
        refine ⟨⟨k + 1, by omega, by go_num, by rw [Hst.out]; go_num⟩, by simp [intOf]; omega⟩
    · have hke : k = ps.length := by omega
      subst hke
      have Ht : Hid (sumLen (ps.take ps.length) = sumLen ps) := by show _ = _; rw [List.take_length]
      have hsn : 0 ≤ (sumLen ps : Int) := by omega
      rw [Ht.out]
      clear hkl
      have Hh := Lib.hid h
      clear h
      go_wp2_with (go_at_call 50; go_must (refine (grow_calls (sumLen ps) hsum _).mono ?_); rintro e w1 ⟨v1, rfl, ho1, hb1⟩)
      have h1 := Hh.out.below hb1
      have Ho1 := Lib.hid ho1
      have Hb1 := Lib.hid hb1
      clear ho1 hb1
      go_loopw [6, 27] (fun s i wr => ∃ k : Nat, k ≤ ps.length ∧ i = .int .i64 k ∧ OwnB wr w.heap.size 5 s ((ps.take k).flatten) ∧ Below w.heap.size w wr) (fun _ i _ => ps.length - (intOf i).toNat)
      case atStart => exact ⟨0, Nat.zero_le _, rfl, Ho1.out, Hb1.out⟩
      case round =>
        obtain ⟨k, hk, rfl, hok, hbk⟩ := hrel
        have hl1 := flatten_len (ps.take k)
        by_cases hkl : k < ps.length
        · obtain ⟨b, o, rfl, hb, hc⟩ := Hh.out.below hbk (by omega)
          obtain ⟨Ak, ck, h1, h2, h3, h4⟩ := hc k hkl
          have Hc := Lib.hid hc
          have hst := sumLen_take ps k hkl
          have hle := sumLen_take_le ps (k + 1)
          have hfl := flatten_take ps k hkl
          clear hc
          obtain ⟨p, hp⟩ : ∃ p, p = ps.getD k [] := ⟨_, rfl⟩
          rw [← hp] at h1 h2 h4 hst hfl
          rw [hst, ← hl1] at hle
          have Hfl := Lib.hid hfl
          have Hok := Lib.hid hok
          have Hbk := Lib.hid hbk
          clear hp hst hl1 hfl hok hbk
          go_wp2_with (at_builtin; go_loud (refine wpList_appB _ rfl (.tmp 31) (.tmp 32) 22 rfl w.heap.size 5 i0 Try.underlying22 Hi.out _ _ rfl Hok.out w.heap.size Ak _ ck p rfl rfl h4 (by omega) Hbk.out.size ?_); intro v2 w2 hown2 hg2 hat2 hbw2)
          all_goals
            refine ⟨⟨k + 1, by omega, by go_num, by rw [Hfl.out]; exact hown2, Hbk.out.trans hbw2⟩, by simp [intOf]; omega⟩
        · have hke : k = ps.length := by omega
          subst hke
          rw [List.take_length] at hok
          have Hok := Lib.hid hok
          clear hok
          go_wp2
          go_ret
          exact ⟨_, rfl, Hok.out, hbk⟩

set_option maxHeartbeats 400000 in
theorem join_calls (ps : List (List UInt8)) (A : Option Addr) (c : Nat) (w : World) (h : ReadBB w w.heap.size A ps) (hps : ps.length ≤ 140737488351232) (hsum : sumLen ps ≤ 140737488355328) :
    Calls Try.prog 34 #[.slice A ps.length c] w
    fun e w' => ∃ v, e = .returned v ∧ OwnB w' w.heap.size 5 v ps.flatten ∧ Below w.heap.size w w' := by
  go_enter Try.func34, Try.ntmps34
  go_wp2_with (go_at_call 45; go_must (refine (concat_calls ps A c _ h hps hsum).mono ?_); rintro e w1 ⟨v1, rfl, ho1, hb1⟩)
  go_ret
  exact ⟨_, rfl, ho1, hb1⟩
end Fi
end Go.Proofs.Ytiofkhjpknfkgaa
/- A region that draws its order, holds calls and loads, and ends in a store to what it has read: one walk serves every order. F holds till the operation k comes up, which waits for all that lean on F; behind a call F may be made stronger. -/
namespace Go.Proofs.Ytiofkhjpknfkgaa
namespace CanM
set_option linter.unusedVariables false
section
variable {P : Program} {ops : Array Oper} {Q : Exit → Act → World → Prop} {F : World → Prop} {k : Nat}

def St (F : World → Prop) (k : Nat) (listed : Array Bool) (w : World) : Prop := listed.getD k false = false → F w
theorem St.mono {listed : Array Bool} {w : World} (h : St F k listed w) (i : Nat) : St F k (listed.setIfInBounds i true) w := fun h1 => h (by
  cases hb : listed.getD k false
  · rfl
  · rw [getD_set_true hb] at h1; cases h1)
def wpAnyL (P : Program) (ops : Array Oper) (Q : Exit → Act → World → Prop) (F : World → Prop) (k : Nat) : Nat → Array Bool → Act → World → Prop
  | 0, listed, a, w => Region.ready .any ops listed = [] ∧ Q .normal a w
  | fuel + 1, listed, a, w => (Region.ready .any ops listed = [] → Q .normal a w) ∧
    ∀ i ∈ Region.ready .any ops listed, wpOp P ops Q i (fun a' w' => St F k (listed.setIfInBounds i true) w' ∧ wpAnyL P ops Q F k fuel (listed.setIfInBounds i true) a' w') a w
theorem wpAny_of_L : ∀ (fuel : Nat) (listed : Array Bool) (a : Act) (w : World), wpAnyL P ops Q F k fuel listed a w → wpAny P .any ops Q fuel listed a w
  | 0, _, _, _, h => h
  | fuel + 1, _, _, _, h => ⟨h.1, fun i hi => wpOp_mono (fun a' w' h' => wpAny_of_L fuel _ a' w' h'.2) (h.2 i hi)⟩
/-- the operation k waits for i -/
def waits (ops : Array Oper) (k i : Nat) : Bool := match ops[k]? with | some o => o.after.any fun e => Region.binds .any e && e.on == i | none => true

theorem unlisted_of_ready {listed : Array Bool} {i : Nat} {oj : Oper} (hr : i ∈ Region.ready .any ops listed) (hall : ∀ e ∈ oj.after, Region.binds .any e = true → listed.getD e.on false = true) : ∀ e ∈ oj.after, Region.binds .any e = true → e.on ≠ i := fun e he hb heq => by
  have h1 := hall e he hb
  have h0 := (mem_ready.1 hr).1
  rw [heq] at h1
  rcases Nat.lt_or_ge i listed.size with h' | h'
  · simp [h'] at h0 h1; rw [h0] at h1; cases h1
  · simp [Array.getElem?_eq_none h'] at h1

/-- what yields under F, before k, may be taken first -/
theorem first {i : Nat} {oi : Oper} {v : Value} (hi : ops[i]? = some oi) (hsel : ∀ (j : Nat) (o : Oper) cs b, ops[j]? = some o → o.op ≠ .select cs b)
    (hQ : ∀ c a w, Q (.panic c) (a.put oi.dst v) w → Q (.panic c) a w) (hk : waits ops k i = true) :
    ∀ (fuel : Nat) (listed : Array Bool) (a : Act) (w : World),
      (∀ j oj, ops[j]? = some oj → j ≠ i → listed.getD j true = false → (∀ e ∈ oj.after, Region.binds .any e = true → e.on ≠ i) → oi.apart ops oj = true) →
      i ∈ Region.ready .any ops listed → YieldsIf P ops F oi v a → listed.getD k false = false → F w →
      wpAnyL P ops Q F k fuel (listed.setIfInBounds i true) (a.put oi.dst v) w → wpAnyL P ops Q F k (fuel + 1) listed a w := by
  intro fuel
  induction fuel with
  | zero =>
    intro listed a w _ hr hy hkl hF H
    refine ⟨fun h => (by rw [h] at hr; cases hr), fun j hj => ?_⟩
    by_cases hji : j = i
    · subst hji; exact hy.wpOp hi hF ⟨fun _ => hF, H⟩
    · have := ready_mono hj hji
      rw [H.1] at this
      cases this
  | succ fuel ih =>
    intro listed a w hfree hr hy hkl hF H
    refine ⟨fun h => (by rw [h] at hr; cases hr), fun j hj => ?_⟩
    by_cases hji : j = i
    · subst hji; exact hy.wpOp hi hF ⟨fun _ => hF, H⟩
    · have h1 := H.2 j (ready_mono hj hji)
      obtain ⟨hjun, oj, hoj, hall⟩ := mem_ready.1 hj
      have hnot := unlisted_of_ready hr hall
      have hjk : j ≠ k := fun e => by
        subst e
        unfold waits at hk
        rw [hoj] at hk
        simp only [Array.any_eq_true', Bool.and_eq_true, beq_iff_eq] at hk
        obtain ⟨e, he, hb, heq⟩ := hk
        exact hnot e he hb heq
      have hkl' : (listed.setIfInBounds j true).getD k false = false := by rw [getD_set_ne false hjk]; exact hkl
      have h2 := wpOp_putIf hoj (hfree j oj hoj hji hjun hnot) (fun cs b => hsel i oi cs b hi) (fun cs b => hsel j oj cs b hoj) hQ hy h1
      have hfree' : ∀ m om, ops[m]? = some om → m ≠ i → (listed.setIfInBounds j true).getD m true = false →
          (∀ e ∈ om.after, Region.binds .any e = true → e.on ≠ i) → oi.apart ops om = true := fun m om hm hmi hun hno => by
        refine hfree m om hm hmi ?_ hno
        by_cases hjm : j = m
        · subst hjm; exact hjun
        · rw [getD_set_ne true hjm] at hun; exact hun
      refine wpOp_mono (fun a' w' h3 => ?_) h2
      obtain ⟨hy', hS', h4⟩ := h3
      have hS2 : F w' := hS' (by rw [Array.setIfInBounds_comm _ _ (Ne.symm hji)]; rw [getD_set_ne false (fun e => by
        subst e
        unfold waits at hk
        rw [hi] at hk
        simp only [Array.any_eq_true', Bool.and_eq_true, beq_iff_eq] at hk
        obtain ⟨e, he, hb, heq⟩ := hk
        obtain ⟨hun, oi', hoi', hall'⟩ := mem_ready.1 hr
        rw [hi] at hoi'
        injection hoi' with hoi'
        subst hoi'
        exact unlisted_of_ready hr hall' e he hb heq)]; exact hkl')
      refine ⟨fun _ => hS2, ih (listed.setIfInBounds j true) a' w' hfree' (ready_mono hr (Ne.symm hji)) hy' hkl' hS2 ?_⟩
      rw [Array.setIfInBounds_comm _ _ hji]
      exact h4

/-- what yields in whatever world may be taken first -/
theorem firstAll {i : Nat} {oi : Oper} {v : Value} (hi : ops[i]? = some oi) (hsel : ∀ (j : Nat) (o : Oper) cs b, ops[j]? = some o → o.op ≠ .select cs b)
    (hQ : ∀ c a w, Q (.panic c) (a.put oi.dst v) w → Q (.panic c) a w) (hik : i ≠ k) :
    ∀ (fuel : Nat) (listed : Array Bool) (a : Act) (w : World),
      (∀ j oj, ops[j]? = some oj → j ≠ i → listed.getD j true = false → (∀ e ∈ oj.after, Region.binds .any e = true → e.on ≠ i) → oi.apart ops oj = true) →
      i ∈ Region.ready .any ops listed → Yields P ops oi v a → St F k listed w →
      wpAnyL P ops Q F k fuel (listed.setIfInBounds i true) (a.put oi.dst v) w → wpAnyL P ops Q F k (fuel + 1) listed a w := by
  intro fuel
  induction fuel with
  | zero =>
    intro listed a w _ hr hy hS H
    refine ⟨fun h => (by rw [h] at hr; cases hr), fun j hj => ?_⟩
    by_cases hji : j = i
    · subst hji; exact hy.wpOp hi ⟨hS.mono _, H⟩
    · have := ready_mono hj hji
      rw [H.1] at this
      cases this
  | succ fuel ih =>
    intro listed a w hfree hr hy hS H
    refine ⟨fun h => (by rw [h] at hr; cases hr), fun j hj => ?_⟩
    by_cases hji : j = i
    · subst hji; exact hy.wpOp hi ⟨hS.mono _, H⟩
    · have h1 := H.2 j (ready_mono hj hji)
      obtain ⟨hjun, oj, hoj, hall⟩ := mem_ready.1 hj
      have hnot := unlisted_of_ready hr hall
      have h2 := wpOp_put hoj (hfree j oj hoj hji hjun hnot) (fun cs b => hsel i oi cs b hi) (fun cs b => hsel j oj cs b hoj) hQ hy h1
      have hfree' : ∀ m om, ops[m]? = some om → m ≠ i → (listed.setIfInBounds j true).getD m true = false →
          (∀ e ∈ om.after, Region.binds .any e = true → e.on ≠ i) → oi.apart ops om = true := fun m om hm hmi hun hno => by
        refine hfree m om hm hmi ?_ hno
        by_cases hjm : j = m
        · subst hjm; exact hjun
        · rw [getD_set_ne true hjm] at hun; exact hun
      refine wpOp_mono (fun a' w' h3 => ?_) h2
      obtain ⟨hy', hS', h4⟩ := h3
      have hS2 : St F k (listed.setIfInBounds j true) w' := fun h5 => hS' (by rw [Array.setIfInBounds_comm _ _ (Ne.symm hji), getD_set_ne false hik]; exact h5)
      refine ⟨hS2, ih (listed.setIfInBounds j true) a' w' hfree' (ready_mono hr (Ne.symm hji)) hy' hS2 ?_⟩
      rw [Array.setIfInBounds_comm _ _ hji]
      exact h4

theorem L_mono {F' : World → Prop} (hF : ∀ w, F' w → F w) : ∀ (fuel : Nat) (listed : Array Bool) (a : Act) (w : World), wpAnyL P ops Q F' k fuel listed a w → wpAnyL P ops Q F k fuel listed a w
  | 0, _, _, _, h => h
  | fuel + 1, _, _, _, h => ⟨h.1, fun i hi => wpOp_mono (fun a' w' h' => ⟨fun h1 => hF _ (h'.1 h1), L_mono hF fuel _ a' w' h'.2⟩) (h.2 i hi)⟩
/-- the walk: (i, 0) a call, a store ..; (i, 1) yields under F; (i, 2) yields in whatever world -/
def wpCan (P : Program) (ops : Array Oper) (Q : Exit → Act → World → Prop) (k : Nat) : List (Nat × Nat) → (World → Prop) → Act → World → Prop
  | [], _, a, w => Q .normal a w
  | (i, 0) :: rest, F, a, w => ∃ o, ops[i]? = some o ∧ ((Region.wanted o (yielded ops a.tmps) = false ∧ wpCan P ops Q k rest F (a.put o.dst undef) w) ∨
      wpOp P ops Q i (fun a w => ∃ F' : World → Prop, (∀ w, F' w → F w) ∧ (i = k ∨ F' w) ∧ wpCan P ops Q k rest F' a w) a w)
  | (i, 1) :: rest, F, a, w => ∃ o v, ops[i]? = some o ∧ YieldsIf P ops F o v a ∧ wpCan P ops Q k rest F (a.put o.dst v) w
  | (i, _ + 2) :: rest, F, a, w => ∃ o v, ops[i]? = some o ∧ Yields P ops o v a ∧ wpCan P ops Q k rest F (a.put o.dst v) w
def canB (ops : Array Oper) (k : Nat) : List (Nat × Nat) → Array Bool → Bool
  | [], listed => (Region.ready .any ops listed).isEmpty
  | (i, 0) :: rest, listed => (Region.ready .any ops listed == [i]) && canB ops k rest (listed.setIfInBounds i true) && (!listed.getD k false || rest.all fun x => x.2 == 2) && (i < listed.size)
  | (i, 1) :: rest, listed => (Region.ready .any ops listed).contains i && Region.free .any ops listed i && waits ops k i && !listed.getD k false && canB ops k rest (listed.setIfInBounds i true)
  | (i, _ + 2) :: rest, listed => (Region.ready .any ops listed).contains i && Region.free .any ops listed i && (i != k) && canB ops k rest (listed.setIfInBounds i true)

theorem wpAny_can (hs : Region.noSelect ops = true) (hQ : ∀ c (dst : Option Tmp) v a w, Q (.panic c) (a.put dst v) w → Q (.panic c) a w) :
    ∀ (ord : List (Nat × Nat)) (F : World → Prop) (listed : Array Bool) (a : Act) (w : World), St F k listed w → canB ops k ord listed = true → wpCan P ops Q k ord F a w → wpAnyL P ops Q F k ord.length listed a w
  | [], _, _, _, _, _, hB, h => ⟨by simpa [canB] using hB, h⟩
  | (i, 0) :: rest, F, listed, a, w, hw, hB, h => by
    simp only [canB, Bool.and_eq_true, beq_iff_eq, decide_eq_true_eq] at hB
    obtain ⟨⟨⟨hr, hB'⟩, _⟩, hsz⟩ := hB
    obtain ⟨o, ho, h⟩ := h
    refine ⟨fun h0 => (by rw [hr] at h0; cases h0), fun j hj => ?_⟩
    rw [hr, List.mem_singleton] at hj
    subst hj
    rcases h with ⟨hg, h⟩ | h
    · unfold wpOp
      simp only [ho, hg, Bool.false_eq_true, if_false]
      exact ⟨hw.mono _, wpAny_can hs hQ rest F _ _ _ (hw.mono _) hB' h⟩
    · refine wpOp_mono (fun a w h1 => ?_) h
      obtain ⟨F', hFF, h1, h2⟩ := h1
      have hS : St F' k (listed.setIfInBounds j true) w := fun h5 => by
        rcases h1 with rfl | hF
        · simp [hsz] at h5
        · exact hF
      exact ⟨fun h5 => hFF _ (hS h5), L_mono hFF _ _ _ _ (wpAny_can hs hQ rest F' _ a w hS hB' h2)⟩
  | (i, 1) :: rest, F, listed, a, w, hw, hB, h => by
    simp only [canB, Bool.and_eq_true, Bool.not_eq_true'] at hB
    obtain ⟨⟨⟨⟨hr, hf⟩, hk⟩, hkl⟩, hB'⟩ := hB
    obtain ⟨o, v, ho, hy, h⟩ := h
    exact first ho (Region.noSelect_spec hs) (fun c a w => hQ c o.dst v a w) hk rest.length listed a w (Region.free_spec ho hf) (by simpa using hr) hy hkl (hw hkl) (wpAny_can hs hQ rest F _ _ _ (hw.mono _) hB' h)
  | (i, _ + 2) :: rest, F, listed, a, w, hw, hB, h => by
    simp only [canB, Bool.and_eq_true, bne_iff_ne] at hB
    obtain ⟨⟨⟨hr, hf⟩, hik⟩, hB'⟩ := hB
    obtain ⟨o, v, ho, hy, h⟩ := h
    exact firstAll ho (Region.noSelect_spec hs) (fun c a w => hQ c o.dst v a w) hik rest.length listed a w (Region.free_spec ho hf) (by simpa using hr) hy hw (wpAny_can hs hQ rest F _ _ _ (hw.mono _) hB' h)

theorem region {id : Nat} {l : List Oper} {a : Act} {w : World} (F : World → Prop) (k : Nat) (ord : List (Nat × Nat)) (hm : P.follows .mixedOrders = true)
    (hB : (Region.noSelect l.toArray && (ord.length == l.length) && canB l.toArray k ord (Array.replicate l.length false)) = true) (hF : F w.drew)
    (h : wpCan P l.toArray (NoPanic Q) k ord F a w.drew) : (Code.region id l.toArray true).wp P Q a w := by
  simp only [Bool.and_eq_true, beq_iff_eq] at hB
  refine wp_region_noPanic (wp_region_any hm ?_)
  have := wpAny_of_L _ _ _ _ (wpAny_can (P := P) (Q := NoPanic Q) (k := k) hB.1.1 (fun c dst v a w h => h.elim) ord F (Array.replicate l.length false) a w.drew (fun _ => hF) hB.2 h)
  rw [hB.1.2] at this
  simpa using this

variable {i : Nat} {o : Oper} {a : Act} {w : World} {b : Nat} {rest : List (Nat × Nat)}
theorem held (hi : ops[i]? = some o) (hg : Region.wanted o (yielded ops a.tmps) = true) (hv : ∃ v, (∀ w', F w' → (execOp a.eval o).run P w' = .ok (.value v) w') ∧ ∀ K : Act → Prop, (∀ a, wpCan P ops Q k rest F a w → K a) → K (a.put o.dst v)) : wpCan P ops Q k ((i, 1) :: rest) F a w :=
  let ⟨v, hv, h⟩ := hv; ⟨o, v, hi, .inl ⟨hg, hv⟩, h _ fun _ h => h⟩
theorem pur (hi : ops[i]? = some o) (hg : Region.wanted o (yielded ops a.tmps) = true) (hv : ∃ v, (∀ w', (execOp a.eval o).run P w' = .ok (.value v) w') ∧ ∀ K : Act → Prop, (∀ a, wpCan P ops Q k rest F a w → K a) → K (a.put o.dst v)) : wpCan P ops Q k ((i, 2) :: rest) F a w :=
  let ⟨v, hv, h⟩ := hv; ⟨o, v, hi, .inl ⟨hg, hv⟩, h _ fun _ h => h⟩
theorem skip (hi : ops[i]? = some o) (hg : Region.wanted o (yielded ops a.tmps) = false) (h : ∀ K : Act → Prop, (∀ a, wpCan P ops Q k rest F a w → K a) → K (a.put o.dst undef)) : wpCan P ops Q k ((i, b) :: rest) F a w :=
  match b with
  | 0 => ⟨o, hi, .inl ⟨hg, h _ fun _ h => h⟩⟩
  | 1 => ⟨o, undef, hi, .inr ⟨hg, rfl⟩, h _ fun _ h => h⟩
  | _ + 2 => ⟨o, undef, hi, .inr ⟨hg, rfl⟩, h _ fun _ h => h⟩
theorem impF (hi : ops[i]? = some o) (h : ∀ K : Act → World → Prop, Go.RowKit.Hid (∀ (F' : World → Prop) a w, (∀ w, F' w → F w) → F' w → wpCan P ops Q k rest F' a w → K a w) → if Region.wanted o (yielded ops a.tmps) then o.wp P a w K Q else K (a.put o.dst undef) w) : wpCan P ops Q k ((i, 0) :: rest) F a w := by
  refine ⟨o, hi, .inr ?_⟩
  have := h (fun a w => ∃ F' : World → Prop, (∀ w, F' w → F w) ∧ (i = k ∨ F' w) ∧ wpCan P ops Q k rest F' a w) (Lib.hid fun F' _ _ hFF hS h => ⟨F', hFF, .inr hS, h⟩)
  unfold wpOp
  simp only [hi]
  split
  · rename_i hw; rw [if_pos hw] at this; exact .inl this
  · rename_i hw; rw [if_neg hw] at this; exact this
theorem imp (hi : ops[i]? = some o) (h : ∀ K : Act → World → Prop, Go.RowKit.Hid (∀ a w, F w → wpCan P ops Q k rest F a w → K a w) → if Region.wanted o (yielded ops a.tmps) then o.wp P a w K Q else K (a.put o.dst undef) w) : wpCan P ops Q k ((i, 0) :: rest) F a w :=
  impF hi fun K hK => h K (Lib.hid fun a w hF h => hK.out F a w (fun _ h => h) hF h)
/-- the operation k itself -/
theorem last (hi : ops[k]? = some o) (h : ∀ K : Act → World → Prop, Go.RowKit.Hid (∀ a w, wpCan P ops Q k rest F a w → K a w) → if Region.wanted o (yielded ops a.tmps) then o.wp P a w K Q else K (a.put o.dst undef) w) : wpCan P ops Q k ((k, 0) :: rest) F a w := by
  refine ⟨o, hi, .inr (wpOp_mono (fun a w h => ⟨F, fun _ h => h, .inl rfl, h⟩) (K := wpCan P ops Q k rest F) ?_)⟩
  have := h (wpCan P ops Q k rest F) (Lib.hid fun _ _ h => h)
  unfold wpOp
  simp only [hi]
  split
  · rename_i hw; rw [if_pos hw] at this; exact .inl this
  · rename_i hw; rw [if_neg hw] at this; exact this
theorem done (h : Q .normal a w) : wpCan P ops (NoPanic Q) k [] F a w := h
end
end CanM
end Go.Proofs.Ytiofkhjpknfkgaa
/- A region that draws its order, holds calls and loads, and makes several things in an open order: a tree of orders. F holds till the operation k comes up; behind a call F may be made stronger. -/
namespace Go.Proofs.Ytiofkhjpknfkgaa
namespace CanT
open CanM (St wpAny_of_L waits first firstAll L_mono)
open Go.RowKit Ba
set_option linter.unusedVariables false
inductive Ord where
  | nil : Ord
  | op : Nat → Nat → Ord → Ord
  | fork : Ord → Ord → Ord
def ofList : List (Nat × Nat) → Ord
  | [] => .nil
  | (i, b) :: l => .op i b (ofList l)
section
variable {P : Program} {ops : Array Oper} {Q : Exit → Act → World → Prop} {F : World → Prop} {k : Nat}
def heads : Ord → List Nat
  | .nil => []
  | .op i _ _ => [i]
  | .fork l r => heads l ++ heads r
def okLen : Ord → Nat → Bool
  | .nil, 0 => true
  | .nil, _ + 1 => false
  | .op _ _ r, n + 1 => okLen r n
  | .op _ _ _, 0 => false
  | .fork l r, n => okLen l n && okLen r n
def wpCan (P : Program) (ops : Array Oper) (Q : Exit → Act → World → Prop) (k : Nat) : Ord → (World → Prop) → Act → World → Prop
  | .nil, _, a, w => Q .normal a w
  | .op i 0 rest, F, a, w => ∃ o, ops[i]? = some o ∧ ((Region.wanted o (yielded ops a.tmps) = false ∧ wpCan P ops Q k rest F (a.put o.dst undef) w) ∨
      wpOp P ops Q i (fun a w => ∃ F' : World → Prop, (∀ w, F' w → F w) ∧ (i = k ∨ F' w) ∧ wpCan P ops Q k rest F' a w) a w)
  | .op i 1 rest, F, a, w => ∃ o v, ops[i]? = some o ∧ YieldsIf P ops F o v a ∧ wpCan P ops Q k rest F (a.put o.dst v) w
  | .op i (_ + 2) rest, F, a, w => ∃ o v, ops[i]? = some o ∧ Yields P ops o v a ∧ wpCan P ops Q k rest F (a.put o.dst v) w
  | .fork l r, F, a, w => wpCan P ops Q k l F a w ∧ wpCan P ops Q k r F a w
def canB (ops : Array Oper) (k : Nat) : Ord → Bool → Array Bool → Bool
  | .nil, inF, listed => !inF && (Region.ready .any ops listed).isEmpty
  | .op i 0 rest, inF, listed => (inF || Region.ready .any ops listed == [i]) && canB ops k rest false (listed.setIfInBounds i true) && (i < listed.size)
  | .op i 1 rest, inF, listed => !inF && ((Region.ready .any ops listed).contains i && Region.free .any ops listed i && waits ops k i && !listed.getD k false && canB ops k rest false (listed.setIfInBounds i true))
  | .op i (_ + 2) rest, inF, listed => !inF && ((Region.ready .any ops listed).contains i && Region.free .any ops listed i && (i != k) && canB ops k rest false (listed.setIfInBounds i true))
  | .fork l r, inF, listed => (inF || Region.ready .any ops listed == heads l ++ heads r) && canB ops k l true listed && canB ops k r true listed
theorem heads_ne : ∀ (t : Ord) (listed : Array Bool), canB ops k t true listed = true → heads t ≠ []
  | .nil, _, h => by simp [canB] at h
  | .op i _ _, _, _ => by simp [heads]
  | .fork l r, listed, h => by
    simp only [canB, Bool.true_or, Bool.true_and, Bool.and_eq_true] at h
    have := heads_ne l listed h.1
    simp only [heads]
    intro h2
    exact this (List.append_eq_nil_iff.1 h2).1
theorem wpAny_can (hs : Region.noSelect ops = true) (hQ : ∀ c (dst : Option Tmp) v a w, Q (.panic c) (a.put dst v) w → Q (.panic c) a w) :
    ∀ (t : Ord) (F : World → Prop) (n : Nat) (listed : Array Bool) (a : Act) (w : World), St F k listed w → okLen t n = true → wpCan P ops Q k t F a w →
      (canB ops k t false listed = true → CanM.wpAnyL P ops Q F k n listed a w) ∧
      (canB ops k t true listed = true → ∃ m, n = m + 1 ∧ ∀ j ∈ heads t, wpOp P ops Q j (fun a' w' => St F k (listed.setIfInBounds j true) w' ∧ CanM.wpAnyL P ops Q F k m (listed.setIfInBounds j true) a' w') a w)
  | .nil, F, 0, listed, a, w, hw, hl, h => ⟨fun hB => ⟨by simpa [canB] using hB, h⟩, fun hB => by simp [canB] at hB⟩
  | .nil, F, n + 1, listed, a, w, hw, hl, h => by simp [okLen] at hl
  | .op i b rest, F, 0, listed, a, w, hw, hl, h => by simp [okLen] at hl
  | .op i 0 rest, F, n + 1, listed, a, w, hw, hl, h => by
    obtain ⟨o, ho, h⟩ := h
    have key : canB ops k rest false (listed.setIfInBounds i true) = true → i < listed.size → wpOp P ops Q i (fun a' w' => St F k (listed.setIfInBounds i true) w' ∧ CanM.wpAnyL P ops Q F k n (listed.setIfInBounds i true) a' w') a w := by
      intro hB' hsz
      rcases h with ⟨hg, h⟩ | h
      · unfold wpOp
        simp only [ho, hg, Bool.false_eq_true, if_false]
        exact ⟨hw.mono _, (wpAny_can hs hQ rest F n _ _ _ (hw.mono _) hl h).1 hB'⟩
      · refine wpOp_mono (fun a w h1 => ?_) h
        obtain ⟨F', hFF, h1, h2⟩ := h1
        have hS : St F' k (listed.setIfInBounds i true) w := fun h5 => by
          rcases h1 with rfl | hF
          · simp [hsz] at h5
          · exact hF
        exact ⟨fun h5 => hFF _ (hS h5), L_mono hFF _ _ _ _ ((wpAny_can hs hQ rest F' n _ a w hS hl h2).1 hB')⟩
    refine ⟨fun hB => ?_, fun hB => ⟨n, rfl, fun j hj => ?_⟩⟩
    · simp only [canB, Bool.false_or, Bool.and_eq_true, beq_iff_eq, decide_eq_true_eq] at hB
      obtain ⟨⟨hr, hB'⟩, hsz⟩ := hB
      refine ⟨fun h0 => (by rw [hr] at h0; cases h0), fun j hj => ?_⟩
      rw [hr, List.mem_singleton] at hj
      subst hj
      exact key hB' hsz
    · simp only [canB, Bool.true_or, Bool.true_and, Bool.and_eq_true, decide_eq_true_eq] at hB
      simp only [heads, List.mem_singleton] at hj
      subst hj
      exact key hB.1 hB.2
  | .op i 1 rest, F, n + 1, listed, a, w, hw, hl, h => by
    refine ⟨fun hB => ?_, fun hB => by simp [canB] at hB⟩
    simp only [canB, Bool.not_false, Bool.true_and, Bool.and_eq_true, Bool.not_eq_true'] at hB
    obtain ⟨⟨⟨⟨hr, hf⟩, hk⟩, hkl⟩, hB'⟩ := hB
    obtain ⟨o, v, ho, hy, h⟩ := h
    exact first ho (Region.noSelect_spec hs) (fun c a w => hQ c o.dst v a w) hk n listed a w (Region.free_spec ho hf) (by simpa using hr) hy hkl (hw hkl) ((wpAny_can hs hQ rest F n _ _ _ (hw.mono _) hl h).1 hB')
  | .op i (_ + 2) rest, F, n + 1, listed, a, w, hw, hl, h => by
    refine ⟨fun hB => ?_, fun hB => by simp [canB] at hB⟩
    simp only [canB, Bool.not_false, Bool.true_and, Bool.and_eq_true, bne_iff_ne] at hB
    obtain ⟨⟨⟨hr, hf⟩, hik⟩, hB'⟩ := hB
    obtain ⟨o, v, ho, hy, h⟩ := h
    exact firstAll ho (Region.noSelect_spec hs) (fun c a w => hQ c o.dst v a w) hik n listed a w (Region.free_spec ho hf) (by simpa using hr) hy hw ((wpAny_can hs hQ rest F n _ _ _ (hw.mono _) hl h).1 hB')
  | .fork l r, F, n, listed, a, w, hw, hl, h => by
    simp only [okLen, Bool.and_eq_true] at hl
    have key : canB ops k l true listed = true → canB ops k r true listed = true → ∃ m, n = m + 1 ∧ ∀ j ∈ heads l ++ heads r, wpOp P ops Q j (fun a' w' => St F k (listed.setIfInBounds j true) w' ∧ CanM.wpAnyL P ops Q F k m (listed.setIfInBounds j true) a' w') a w := by
      intro h1 h2
      obtain ⟨m, hm, g1⟩ := (wpAny_can hs hQ l F n listed a w hw hl.1 h.1).2 h1
      obtain ⟨m', hm', g2⟩ := (wpAny_can hs hQ r F n listed a w hw hl.2 h.2).2 h2
      have : m' = m := by omega
      subst this
      refine ⟨m', hm, fun j hj => ?_⟩
      rcases List.mem_append.1 hj with h | h
      · exact g1 j h
      · exact g2 j h
    refine ⟨fun hB => ?_, fun hB => ?_⟩
    · simp only [canB, Bool.false_or, Bool.and_eq_true, beq_iff_eq] at hB
      obtain ⟨m, rfl, hk⟩ := key hB.1.2 hB.2
      have hne := heads_ne l listed hB.1.2
      refine ⟨fun h0 => ?_, fun j hj => hk j (by rw [← hB.1.1]; exact hj)⟩
      rw [hB.1.1] at h0
      exact absurd (List.append_eq_nil_iff.1 h0).1 hne
    · simp only [canB, Bool.true_or, Bool.true_and, Bool.and_eq_true] at hB
      exact key hB.1 hB.2

theorem region {id : Nat} {l : List Oper} {a : Act} {w : World} (F : World → Prop) (k : Nat) (ord : Ord) (hm : P.follows .mixedOrders = true)
    (hB : (Region.noSelect l.toArray && okLen ord l.length && canB l.toArray k ord false (Array.replicate l.length false)) = true) (hF : F w.drew)
    (h : wpCan P l.toArray (NoPanic Q) k ord F a w.drew) : (Code.region id l.toArray true).wp P Q a w := by
  simp only [Bool.and_eq_true] at hB
  refine wp_region_noPanic (wp_region_any hm ?_)
  have := wpAny_of_L _ _ _ _ ((wpAny_can (P := P) (Q := NoPanic Q) (k := k) hB.1.1 (fun c dst v a w h => h.elim) ord F l.length (Array.replicate l.length false) a w.drew (fun _ => hF) hB.1.2 h).1 hB.2)
  simpa using this

variable {i : Nat} {o : Oper} {a : Act} {w : World} {b : Nat} {rest : Ord}
theorem held (hi : ops[i]? = some o) (hg : Region.wanted o (yielded ops a.tmps) = true) (hv : ∃ v, (∀ w', F w' → (execOp a.eval o).run P w' = .ok (.value v) w') ∧ ∀ K : Act → Prop, (∀ a, wpCan P ops Q k rest F a w → K a) → K (a.put o.dst v)) : wpCan P ops Q k (.op i 1 rest) F a w :=
  let ⟨v, hv, h⟩ := hv; ⟨o, v, hi, .inl ⟨hg, hv⟩, h _ fun _ h => h⟩
theorem pur (hi : ops[i]? = some o) (hg : Region.wanted o (yielded ops a.tmps) = true) (hv : ∃ v, (∀ w', (execOp a.eval o).run P w' = .ok (.value v) w') ∧ ∀ K : Act → Prop, (∀ a, wpCan P ops Q k rest F a w → K a) → K (a.put o.dst v)) : wpCan P ops Q k (.op i 2 rest) F a w :=
  let ⟨v, hv, h⟩ := hv; ⟨o, v, hi, .inl ⟨hg, hv⟩, h _ fun _ h => h⟩
theorem skip (hi : ops[i]? = some o) (hg : Region.wanted o (yielded ops a.tmps) = false) (h : ∀ K : Act → Prop, (∀ a, wpCan P ops Q k rest F a w → K a) → K (a.put o.dst undef)) : wpCan P ops Q k (.op i b rest) F a w :=
  match b with
  | 0 => ⟨o, hi, .inl ⟨hg, h _ fun _ h => h⟩⟩
  | 1 => ⟨o, undef, hi, .inr ⟨hg, rfl⟩, h _ fun _ h => h⟩
  | _ + 2 => ⟨o, undef, hi, .inr ⟨hg, rfl⟩, h _ fun _ h => h⟩
theorem impF (hi : ops[i]? = some o) (h : ∀ K : Act → World → Prop, Go.RowKit.Hid (∀ (F' : World → Prop) a w, (∀ w, F' w → F w) → F' w → wpCan P ops Q k rest F' a w → K a w) → if Region.wanted o (yielded ops a.tmps) then o.wp P a w K Q else K (a.put o.dst undef) w) : wpCan P ops Q k (.op i 0 rest) F a w := by
  refine ⟨o, hi, .inr ?_⟩
  have := h (fun a w => ∃ F' : World → Prop, (∀ w, F' w → F w) ∧ (i = k ∨ F' w) ∧ wpCan P ops Q k rest F' a w) (Lib.hid fun F' _ _ hFF hS h => ⟨F', hFF, .inr hS, h⟩)
  unfold wpOp
  simp only [hi]
  split
  · rename_i hw; rw [if_pos hw] at this; exact .inl this
  · rename_i hw; rw [if_neg hw] at this; exact this
theorem imp (hi : ops[i]? = some o) (h : ∀ K : Act → World → Prop, Go.RowKit.Hid (∀ a w, F w → wpCan P ops Q k rest F a w → K a w) → if Region.wanted o (yielded ops a.tmps) then o.wp P a w K Q else K (a.put o.dst undef) w) : wpCan P ops Q k (.op i 0 rest) F a w :=
  impF hi fun K hK => h K (Lib.hid fun a w hF h => hK.out F a w (fun _ h => h) hF h)
theorem last (hi : ops[k]? = some o) (h : ∀ K : Act → World → Prop, Go.RowKit.Hid (∀ a w, wpCan P ops Q k rest F a w → K a w) → if Region.wanted o (yielded ops a.tmps) then o.wp P a w K Q else K (a.put o.dst undef) w) : wpCan P ops Q k (.op k 0 rest) F a w := by
  refine ⟨o, hi, .inr (wpOp_mono (fun a w h => ⟨F, fun _ h => h, .inl rfl, h⟩) (K := wpCan P ops Q k rest F) ?_)⟩
  have := h (wpCan P ops Q k rest F) (Lib.hid fun _ _ h => h)
  unfold wpOp
  simp only [hi]
  split
  · rename_i hw; rw [if_pos hw] at this; exact .inl this
  · rename_i hw; rw [if_neg hw] at this; exact this
theorem both {l r : Ord} (h1 : wpCan P ops Q k l F a w) (h2 : wpCan P ops Q k r F a w) : wpCan P ops Q k (.fork l r) F a w := ⟨h1, h2⟩
theorem done (h : Q .normal a w) : wpCan P ops (NoPanic Q) k .nil F a w := h
/-- a row of values out of the midst of a block -/
theorem heldR (hi : ops[i]? = some o) (hg : Region.wanted o (yielded ops a.tmps) = true)
    (ty : TypeId) (x : Operand) (ho : o.op = .load ty x) (g p : Nat) (cs : List Value) (hx : a.eval x = .pointer (some ⟨g, p, none⟩)) (hF : ∀ w', F w' → w'.rangeAt g p cs) (d : TypeDesc) (hu : P.underlying ty = some d) (hd : d.isRow = true)
    (hs : (P.info? ty).map (·.size) = some cs.length) (h : ∀ K : Act → Prop, (∀ a, wpCan P ops Q k rest F a w → K a) → K (a.put o.dst (.agg cs.toArray))) : wpCan P ops Q k (.op i 1 rest) F a w := by
  refine held hi hg ⟨.agg cs.toArray, fun w' hF' => ?_, h⟩
  unfold execOp
  simp only [ho, hx, Instr.loadAt, Instr.sureAddr, Sem.run_bind, Sem.run_pure, Result.andThen_ok, run_loadVar_mid w' g p ty cs d (hF w' hF') hu hd hs]
end
end CanT
end Go.Proofs.Ytiofkhjpknfkgaa
/- Slices of bytes, as equations for the walk. -/
namespace Go.Proofs.Ytiofkhjpknfkgaa
namespace Ba
open Go.RowKit
set_option linter.unusedVariables false
theorem elem_of {P : Program} {t e : TypeId} (hu : P.underlying t = some (.slice e)) : P.elem t = e := by simp [Program.elem, hu]
/-- x[l:h] -/
theorem sl_lh {P : Program} (t e : TypeId) (i : TypeInfo) (hu : P.underlying t = some (.slice e)) (hi : IsByte P e i) (b o n cap : Nat) (l h : Int) (p k : Nat) (hl : l = p) (hh : h = p + k) (h2 : p + k ≤ cap) (h3 : p < cap) (w : World) :
    (Instr.slice t (.slice (some ⟨b, o, none⟩) n cap) (some (.int .i64 l)) (some (.int .i64 h)) none).run P w = .ok (.slice (some ⟨b, o + p, none⟩) k (cap - p)) w := by
  subst hl hh
  rw [run_slice_lh w t (some ⟨b, o, none⟩) n cap (by rw [elem_of hu]; exact hu) .i64 .i64 (p : Int) ((p : Int) + (k : Int)) (by omega) (by omega) (by omega), elem_of hu]
  have hs : (sizeOf e).run P w = .ok 1 w := by simp [sizeOf, typeInfo, hi.1, hi.2.2.1]
  rw [hs]
  simp only [Result.andThen_ok, sliced]
  have e1 : ((p : Int) + (k : Int)).toNat - (p : Int).toNat = k := by omega
  have e2 : (p : Int).toNat = p := by omega
  rw [e1, e2, if_neg (by omega), Nat.mul_one, Option.map_some, add_lit_]
/-- x[l:], something left of the capacity -/
theorem sl_l {P : Program} (t e : TypeId) (i : TypeInfo) (hu : P.underlying t = some (.slice e)) (hi : IsByte P e i) (A : Option Addr) (n cap : Nat) (l : Int) (p : Nat) (hl : l = p) (h2 : p ≤ n) (w : World) :
    (Instr.slice t (.slice A n cap) (some (.int .i64 l)) none none).run P w = .ok (.slice (if cap = p then A else A.map (·.add p)) (n - p) (cap - p)) w := by
  subst hl
  rw [run_slice_l w t A n cap (by rw [elem_of hu]; exact hu) .i64 (p : Int) (by omega) (by omega), elem_of hu]
  have hs : (sizeOf e).run P w = .ok 1 w := by simp [sizeOf, typeInfo, hi.1, hi.2.2.1]
  rw [hs]
  simp only [Result.andThen_ok, sliced]
  have e2 : (p : Int).toNat = p := by omega
  rw [e2, Nat.mul_one]
/-- x[:h] -/
theorem sl_h {P : Program} (t e : TypeId) (i : TypeInfo) (hu : P.underlying t = some (.slice e)) (hi : IsByte P e i) (A : Option Addr) (n cap : Nat) (h : Int) (k : Nat) (hh : h = k) (h2 : k ≤ cap) (w : World) :
    (Instr.slice t (.slice A n cap) none (some (.int .i64 h)) none).run P w = .ok (.slice A k cap) w := by
  subst hh
  rw [run_slice_h w t A n cap (by rw [elem_of hu]; exact hu) .i64 (k : Int) (by omega) (by omega), elem_of hu]
  have hs : (sizeOf e).run P w = .ok 1 w := by simp [sizeOf, typeInfo, hi.1, hi.2.2.1]
  rw [hs]
  simp only [Result.andThen_ok, sliced]
  have e2 : (k : Int).toNat = k := by omega
  rw [e2, Nat.sub_zero, Nat.sub_zero]
  split
  · rfl
  · cases A <;> simp [Addr.add]
end Ba
namespace CanT
open CanM (St)
open Go.RowKit Ba
variable {P : Program} {ops : Array Oper} {Q : Exit → Act → World → Prop} {F : World → Prop} {k : Nat} {i : Nat} {o : Oper} {a : Act} {w : World} {rest : Ord}
/-- one cell is read, whatever F says of the world -/
theorem cellG (hi : ops[i]? = some o) (hg : Region.wanted o (yielded ops a.tmps) = true) (u v : Value) (p : Addr) (hF : ∀ w', F w' → w'.cell? p = some u)
    (hl : ∀ w', w'.cell? p = some u → (execOp a.eval o).run P w' = .ok (.value v) w')
    (h : ∀ K : Act → Prop, (∀ a, wpCan P ops Q k rest F a w → K a) → K (a.put o.dst v)) : wpCan P ops Q k (.op i 1 rest) F a w :=
  held hi hg ⟨v, fun w' hf => hl w' (hF w' hf), h⟩
end CanT
end Go.Proofs.Ytiofkhjpknfkgaa

/- What laying and reading a number of the wire does, of the program. -/
import Derived.Test.YtlkcibhdnicpkaaDoorVarint
namespace Go.Proofs.YtlkcibhdnicpkaaDoor
namespace Vi
open Go.RowKit Ba Vm
set_option linter.unusedVariables false
theorem info5 : (Tryd.prog.info? 5).map (fun i => (i.zero, i.size, i.bytes)) = some (some (.int .u8 0), 1, 1) := by kernel_rfl
theorem ret2 {a b : Value} {x y : Value} (h : a = x) (h2 : b = y) : Ending.returned (.tuple #[a, b]) = .returned (.tuple #[x, y]) := by rw [h, h2]

set_option maxHeartbeats 400000 in
theorem putIn_calls (n d : Int) (hn : n ≤ 9223372036854775807) (w : World) : Calls Tryd.prog 67 #[.int .i64 n, .int .i64 d] w
    fun e w' => ∃ v, e = .returned (.tuple #[v, .int .i64 (putIn n d).2]) ∧ OwnB w' w.heap.size 5 v (putIn n d).1 ∧ Below w.heap.size w w' := by
  by_cases hd : d = 1 ∨ d = 2 ∨ d = 4 ∨ d = 8
  · obtain ⟨k, rfl, hk⟩ : ∃ k : Nat, d = (k : Int) ∧ W4 k := ⟨d.toNat, by omega, by unfold W4; omega⟩
    have ht : tell k = tag k := tell_tag k hk
    have ht3 : tag k ≤ 3 := by rcases hk with rfl | rfl | rfl | rfl <;> simp [tag]
    have hk8 : 1 ≤ k ∧ k ≤ 8 := by rcases hk with rfl | rfl | rfl | rfl <;> omega
    by_cases hf : n < 0 ∨ lim k ≤ n
    · have hp : putIn n k = ([], 13) := by unfold putIn; rw [if_neg (by rw [Classical.not_not]; exact hd), if_pos (by simpa using hf)]
      have Hp := Lib.hid hp
      have Ht := Lib.hid ht
      clear hp ht
      go_enter Tryd.func67, Tryd.ntmps67
      go_wp2_with (first
        | (go_at_call 72; refine (tell_calls _ _).mono ?_; rw [Ht.out]; rintro e w1 ⟨rfl, hb1⟩)
        | (go_at_call 71; refine (fits_no n k hn hk hf _).mono ?_; rintro e w2 ⟨rfl, rfl⟩))
      go_ret2
      exact ⟨.slice none 0 0, by rw [Hp.out]; rfl, by rw [Hp.out]; exact OwnB.nil, hb1⟩
    · have hp : putIn n k = (enc n.toNat k, 0) := putIn_ok n k hk (by omega) (by omega)
      have Hp := Lib.hid hp
      have Ht := Lib.hid ht
      clear hp ht
      obtain ⟨i0, hi0, hz0, hz1, hz2⟩ := info_parts info5
      obtain ⟨N, rfl⟩ : ∃ N : Nat, n = (N : Int) := ⟨n.toNat, by omega⟩
      go_enter Tryd.func67, Tryd.ntmps67
      go_wp2_with (first
        | (go_at_call 72; refine (tell_calls _ _).mono ?_; rw [Ht.out]; rintro e w1 ⟨rfl, hb1⟩)
        | (go_at_call 71; refine (fits_yes _ k (by omega) hk (by omega) _).mono ?_; rintro e w2 ⟨rfl, rfl⟩)
        | (at_make; go_loud (refine wpList_make_full _ rfl (.tmp 19) (.tmp 19) 22 rfl w.heap.size 5 i0 (.int .u8 0) 1 Tryd.underlying22 hi0 hz0 hz1 .i64 .i64 _ _ k rfl rfl rfl rfl (by rw [hz2]; omega) (by unfold maxLen; omega) hb1.size ?_); intro w3 hown3 hg3))
      obtain ⟨g, hgq⟩ : ∃ g, g = w1.heap.size := ⟨_, rfl⟩
      rw [← hgq] at hown3
      rw [← hgq]
      have hge : w.heap.size ≤ g := by rw [hgq]; exact hb1.size
      have hb3 : Below w.heap.size w w3 := hb1.grown hg3 hb1.size (by simp)
      have hrow : w3.ownsRow w.heap.size 5 1 (.slice (some ⟨g, 0, none⟩) k k) k (bvs (List.replicate k 0 ++ be 0 N)) := by
        have e : (madeCells (Value.int .u8 0).cells (k * 1)).toList = bvs (List.replicate k 0 ++ be 0 N) := by
          simp [Value.cells, toList_madeCells_one, be, bvs, bv]
        rw [← e]; exact hown3
      clear hown3 hg3 hgq hb1
      go_loopw [0, 8] (fun n i wr => ∃ j : Nat, j ≤ k ∧ i = .int .i64 ((j : Int) - 1) ∧ n = .int .i64 ((N / 256 ^ (k - j) : Nat) : Int) ∧ wr.ownsRow w.heap.size 5 1 (.slice (some ⟨g, 0, none⟩) k k) k (bvs (List.replicate j 0 ++ be (k - j) N)) ∧ Below w.heap.size w wr) (fun _ i _ => (intOf i + 1).toNat)
      case atStart => exact ⟨k, Nat.le_refl _, rfl, by simp, by simpa using hrow, hb3⟩
      case round =>
        obtain ⟨j, hj, rfl, rfl, hrj, hbj⟩ := hrel
        clear hrow hb3
        rcases j with _ | m
        · have hc0 := hrj.cellAt 0 (by omega)
          have hL : bvs (List.replicate 0 0 ++ be (k - 0) N) = bvs (be k N) := by simp
          rw [hL] at hc0 hrj
          clear hL
          have hb0 := bvs_get (be k N) 0 (by rw [be_length]; omega)
          rw [be_head N k (by omega), UInt8.toNat_ofNat'] at hb0
          rw [hb0] at hc0
          clear hb0
          obtain ⟨V, hV⟩ : ∃ V : Nat, V = N / 256 ^ (k - 1) % 256 := ⟨_, rfl⟩
          rw [show (256 : Nat) = 2 ^ 8 from rfl] at hV
          rw [← hV] at hc0
          have hV2 : V < 256 := by rw [hV]; exact Nat.mod_lt _ (by omega)
          have HV := Lib.hid hV
          clear hV
          have hf0 := hrj.frozenAt 0
          go_wp2
          go_ret2
          have hor := u8_or_nat V (tag k * 64) (by omega) (by omega)
          rw [show ((tag k : Int) * 64) = ((tag k * 64 : Nat) : Int) by omega, hor]
          have hor2 : V ||| tag k * 64 < 256 := Nat.or_lt_two_pow (n := 8) (by omega) (by omega)
          obtain ⟨hs1, hs2⟩ := hrj.stored 0 (.int .u8 ((V ||| tag k * 64 : Nat) : Int))
          rw [bvs_set _ _ _ hor2, HV.out, enc_of_be N k hk (by omega)] at hs1
          refine ⟨.slice (some ⟨g, 0, none⟩) k k, by rw [Hp.out]; rfl, ?_, ?_⟩
          · rw [Hp.out, HV.out]
            have e : (enc N k).length = k := enc_length N k
            show World.ownsRow _ _ _ _ _ (enc ((N : Int)).toNat k).length _
            rw [Int.toNat_natCast, e]
            exact hs1
          · exact hbj.setCell hge _
        · have hcm := hrj.cellAt m (by omega)
          have hfm := hrj.frozenAt m
          rw [show (((m + 1 : Nat) : Int) - 1) = (m : Int) from by omega]
          obtain ⟨V, hV⟩ : ∃ V : Nat, V = N / 256 ^ (k - (m + 1)) := ⟨_, rfl⟩
          rw [← hV]
          have HV := Lib.hid hV
          clear hV
          obtain ⟨uu, hu⟩ : ∃ u, (bvs (List.replicate (m + 1) 0 ++ be (k - (m + 1)) N))[m]? = some u := ⟨_, List.getElem?_eq_getElem (by rw [bvs_length]; simp; omega)⟩
          rw [hu] at hcm
          clear hu
          go_wp2
          obtain ⟨hs1, hs2⟩ := hrj.stored m (.int .u8 ((V % 256 : Nat) : Int))
          rw [bvs_set _ _ _ (by omega), HV.out, be_set N k m hj] at hs1
          refine ⟨⟨m, by omega, rfl, ?_, ?_, hbj.setCell hge _⟩, by simp [intOf]⟩
          · rw [HV.out]
            have e : k - m = (k - (m + 1)) + 1 := by omega
            rw [e, Nat.pow_succ, ← Nat.div_div_eq_div_mul]
            simp
          · rw [show ((V : Int) % 256) = ((V % 256 : Nat) : Int) by omega, HV.out]
            exact hs1
  · have ht : tell d = -1 := by unfold tell; simp only [not_or] at hd; simp [hd]
    have hp : putIn n d = ([], 2) := by unfold putIn; rw [if_pos hd]
    have Hp := Lib.hid hp
    have Ht := Lib.hid ht
    clear hp ht
    go_enter Tryd.func67, Tryd.ntmps67
    go_wp2_with (go_at_call 72; refine (tell_calls _ _).mono ?_; rw [Ht.out]; rintro e w1 ⟨rfl, hb1⟩)
    go_ret2
    exact ⟨.slice none 0 0, by rw [Hp.out]; rfl, by rw [Hp.out]; exact OwnB.nil, hb1⟩

set_option maxHeartbeats 400000 in
theorem put_calls (n : Int) (hn : n ≤ 9223372036854775807) (w : World) : Calls Tryd.prog 64 #[.int .i64 n] w
    fun e w' => ∃ v, e = .returned (.tuple #[v, .int .i64 (put n).2]) ∧ OwnB w' w.heap.size 5 v (put n).1 ∧ Below w.heap.size w w' := by
  have Hp := Lib.hid (put_eq n)
  rcases Nat.eq_zero_or_pos (len n) with h0 | h0
  · have H0 := Lib.hid h0
    clear h0
    go_enter Tryd.func64, Tryd.ntmps64
    go_wp2_with (go_at_call 66; refine (len_calls _ hn _).mono ?_; rw [H0.out]; rintro e w1 ⟨rfl, hb1⟩)
    go_ret2
    exact ⟨.slice none 0 0, by rw [Hp.out, if_pos H0.out]; rfl, by rw [Hp.out, if_pos H0.out]; exact OwnB.nil, hb1⟩
  · go_enter Tryd.func64, Tryd.ntmps64
    go_wp2_with (first
      | (go_at_call 66; refine (len_calls _ hn _).mono ?_; rintro e w1 ⟨rfl, hb1⟩)
      | (go_at_call 67; refine (putIn_calls _ _ hn _).mono ?_; rintro e w2 ⟨v, rfl, ho, hb2⟩))
    go_ret2
    have hz : ¬ len n = 0 := by omega
    exact ⟨v, by rw [Hp.out, if_neg hz]; rfl, by rw [Hp.out, if_neg hz]; exact ho.weak hb1.size, hb1.trans (hb2.mono hb1.size)⟩

end Vi
end Go.Proofs.YtlkcibhdnicpkaaDoor

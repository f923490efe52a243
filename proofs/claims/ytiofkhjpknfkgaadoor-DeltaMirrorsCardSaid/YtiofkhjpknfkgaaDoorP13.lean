/- What laying numbers and texts does, of the program. -/
import Derived.Test.YtiofkhjpknfkgaaDoorP01
import Derived.Test.YtiofkhjpknfkgaaDoorP02
import Derived.Test.YtiofkhjpknfkgaaDoorP03
import Derived.Test.YtiofkhjpknfkgaaDoorP04
import Derived.Test.YtiofkhjpknfkgaaDoorP05
import Derived.Test.YtiofkhjpknfkgaaDoorP06
import Derived.Test.YtiofkhjpknfkgaaDoorP07
import Derived.Test.YtiofkhjpknfkgaaDoorP08
import Derived.Test.YtiofkhjpknfkgaaDoorP09
import Derived.Test.YtiofkhjpknfkgaaDoorP10
import Derived.Test.YtiofkhjpknfkgaaDoorP11
import Derived.Test.YtiofkhjpknfkgaaDoorP12
namespace Go.Proofs.YtiofkhjpknfkgaaDoor
namespace Fi
open Go.RowKit Ba Vm Fm Vi
set_option linter.unusedVariables false

set_option maxHeartbeats 400000 in
theorem num_calls (n : Int) (hn : n ≤ 9223372036854775807) (w : World) : Calls Tryd.prog 58 #[.int .i64 n] w
    fun e w' => ∃ v, e = .returned v ∧ OwnB w' w.heap.size 5 v (num n) ∧ Below w.heap.size w w' := by
  have Hn := Lib.hid (num_none n)
  rcases put_snd n with h0 | h0
  · go_enter Tryd.func58, Tryd.ntmps58
    go_wp2_with fail
    refine (put_calls n hn _).mono ?_
    rw [h0]
    rintro e w1 ⟨v1, rfl, ho1, hb1⟩
    go_wp2_with fail
    go_ret
    exact ⟨v1, rfl, ho1, hb1⟩
  · have he : num n = [] := Hn.out (by rw [h0]; simp)
    have He := Lib.hid he
    clear he
    go_enter Tryd.func58, Tryd.ntmps58
    go_wp2_with fail
    refine (put_calls n hn _).mono ?_
    rw [h0]
    rintro e w1 ⟨v1, rfl, ho1, hb1⟩
    go_wp2_with fail
    go_ret
    exact ⟨.slice none 0 0, rfl, by rw [He.out]; exact OwnB.nil, hb1⟩

set_option maxHeartbeats 400000 in
theorem text_calls (r : List UInt8) (hr : r.length ≤ 140737488351232) (w : World) : Calls Tryd.prog 59 #[.string (S r)] w
    fun e w' => ∃ v, e = .returned v ∧ OwnB w' w.heap.size 5 v (text r) ∧ Below w.heap.size w w' := by
  obtain ⟨i0, hi0⟩ := isByte_of info5
  have Hi := Lib.hid hi0
  have hl8 := num_len (r.length : Int)
  clear hi0
  go_enter Tryd.func59, Tryd.ntmps59
  go_wp2_with (first
    | (go_at_call 58; go_must (refine (num_calls _ (by omega) _).mono ?_); rintro e w1 ⟨v1, rfl, ho1, hb1⟩)
    | (at_builtin; go_loud (refine wpList_appS _ rfl (.tmp 5) (.tmp 6) 22 9 rfl w.heap.size 5 i0 Tryd.underlying22 Tryd.underlying9 Hi.out v1 _ rfl ho1 r rfl (by omega) hb1.size ?_); intro v2 w2 hown2 hg2 hbw2))
  go_ret
  exact ⟨v2, rfl, hown2, hb1.trans hbw2⟩

set_option maxHeartbeats 400000 in
theorem grow_calls (n : Nat) (hn : n ≤ 140737488355328) (w : World) : Calls Tryd.prog 86 #[.slice none 0 0, .int .i64 (n : Int)] w
    fun e w' => ∃ v, e = .returned v ∧ OwnB w' w.heap.size 5 v [] ∧ Below w.heap.size w w' := by
  obtain ⟨i0, hi0⟩ := isByte_of info5
  have Hi := Lib.hid hi0
  clear hi0
  by_cases hz : n = 0
  · subst hz
    go_enter Tryd.func86, Tryd.ntmps86
    go_wp2
    go_ret
    exact ⟨.slice none 0 0, rfl, OwnB.nil, Below.refl _ _⟩
  · go_enter Tryd.func86, Tryd.ntmps86
    go_wp2_with (at_builtin; go_loud (refine Lib.wpList_append_run _ rfl (.tmp 20) (.tmp 21) 22 3 rfl _ _ rfl rfl _ _ (Lib.run_append_nil_zeros (P := Tryd.prog) _ 22 3 _ 5 i0 (.int .u8 0) .i64 .i64 Tryd.underlying22 Tryd.underlying3 Hi.out.1 Hi.out.2.1 n (by omega) (by rw [Hi.out.2.2.1]; omega) (by omega) (by rw [Hi.out.2.2.2]; omega)) ?_))
    go_ret
    have hge := grownCap_ge w n 0 5
    have hcm : grownCap w n 0 5 ≤ maxLen := grownCap_le_maxLen w n 0 5 (by unfold maxLen; omega)
    refine ⟨_, rfl, ⟨rfl, .inr ⟨w.heap.size, grownCap w n 0 5, _, rfl, Nat.le_refl _, heap_alloc_new w.drew _, Nat.zero_le _, hcm, ?_, by simp [bvs]⟩⟩, ?_⟩
    · have hz1 : (#[Value.int IntKind.u8 0] : Array Value).size = 1 := rfl
      rw [Array.size_append, size_zeroCells, size_zeroCells, hz1]
      omega
    · exact ((Below.refl _ _).drew).alloc (Nat.le_refl _) _

def sumLen : List (List UInt8) → Nat
  | [] => 0
  | p :: ps => p.length + sumLen ps
theorem sumLen_take (ps : List (List UInt8)) (k : Nat) (h : k < ps.length) : sumLen (ps.take (k + 1)) = sumLen (ps.take k) + (ps.getD k []).length := by
  induction ps generalizing k with
  | nil => simp at h
  | cons p ps ih =>
    cases k with
    | zero => simp [sumLen]
    | succ k =>
      have := ih k (by simpa using h)
      simp only [List.take_succ_cons, sumLen, this]
      simp [List.getD]
      omega
theorem sumLen_take_le (ps : List (List UInt8)) (k : Nat) : sumLen (ps.take k) ≤ sumLen ps := by
  induction ps generalizing k with
  | nil => simp
  | cons p ps ih =>
    cases k with
    | zero => simp [sumLen]
    | succ k => have := ih k; simp only [List.take_succ_cons, sumLen]; omega
theorem flatten_len (ps : List (List UInt8)) : ps.flatten.length = sumLen ps := by
  induction ps with
  | nil => rfl
  | cons p ps ih => simp [sumLen, ih]
theorem flatten_take (ps : List (List UInt8)) (k : Nat) (h : k < ps.length) : (ps.take (k + 1)).flatten = (ps.take k).flatten ++ ps.getD k [] := by
  rw [List.take_succ_eq_append_getElem h, List.flatten_append]
  simp [List.getD, h]

set_option maxHeartbeats 800000 in
theorem concat_calls (ps : List (List UInt8)) (A : Option Addr) (c : Nat) (w : World) (h : ReadBB w w.heap.size A ps) (hps : ps.length ≤ 140737488351232) (hsum : sumLen ps ≤ 140737488355328) :
    Calls Tryd.prog 75 #[.slice A ps.length c] w
    fun e w' => ∃ v, e = .returned v ∧ OwnB w' w.heap.size 5 v ps.flatten ∧ Below w.heap.size w w' := by
  obtain ⟨i0, hi0⟩ := isByte_of info5
  have Hi := Lib.hid hi0
  clear hi0
  go_enter Tryd.func75, Tryd.ntmps75
  go_wp2_with fail
  go_loop [3, 11] (fun z i => ∃ k : Nat, k ≤ ps.length ∧ i = .int .i64 k ∧ z = .int .i64 (sumLen (ps.take k))) (fun _ i => ps.length - (intOf i).toNat)
  case atStart => exact ⟨0, Nat.zero_le _, rfl, rfl⟩
  case round =>
    obtain ⟨k, hk, rfl, rfl⟩ := hrel
    by_cases hkl : k < ps.length
    · obtain ⟨b, o, rfl, hb, hc⟩ := h (by omega)
      obtain ⟨Ak, ck, h1, h2, h3, h4⟩ := hc k hkl
      have Hc := Lib.hid hc
      have Hh := Lib.hid h
      have hst := sumLen_take ps k hkl
      have hle := sumLen_take_le ps (k + 1)
      clear hc h
      obtain ⟨p, hp⟩ : ∃ p, p = ps.getD k [] := ⟨_, rfl⟩
      rw [← hp] at h1 h2 h4 hst
      rw [hst] at hle
      have Hst := Lib.hid hst
      clear hp hst
      generalize sumLen (ps.take k) = s1 at Hst hle
      go_wp2
      all_goals
        refine ⟨⟨k + 1, by omega, by go_num, by rw [Hst.out]; go_num⟩, by simp [intOf]; omega⟩
    · have hke : k = ps.length := by omega
      subst hke
      have Ht : Hid (sumLen (ps.take ps.length) = sumLen ps) := by show _ = _; rw [List.take_length]
      have hsn : 0 ≤ (sumLen ps : Int) := by omega
      rw [Ht.out]
      clear hkl
      have Hh := Lib.hid h
      clear h
      go_wp2_with (go_at_call 86; go_must (refine (grow_calls (sumLen ps) hsum _).mono ?_); rintro e w1 ⟨v1, rfl, ho1, hb1⟩)
      have h1 := Hh.out.below hb1
      have Ho1 := Lib.hid ho1
      have Hb1 := Lib.hid hb1
      clear ho1 hb1
      go_loopw [6, 27] (fun s i wr => ∃ k : Nat, k ≤ ps.length ∧ i = .int .i64 k ∧ OwnB wr w.heap.size 5 s ((ps.take k).flatten) ∧ Below w.heap.size w wr) (fun _ i _ => ps.length - (intOf i).toNat)
      case atStart => exact ⟨0, Nat.zero_le _, rfl, Ho1.out, Hb1.out⟩
      case round =>
        obtain ⟨k, hk, rfl, hok, hbk⟩ := hrel
        have hl1 := flatten_len (ps.take k)
        by_cases hkl : k < ps.length
        · obtain ⟨b, o, rfl, hb, hc⟩ := Hh.out.below hbk (by omega)
          obtain ⟨Ak, ck, h1, h2, h3, h4⟩ := hc k hkl
          have Hc := Lib.hid hc
          have hst := sumLen_take ps k hkl
          have hle := sumLen_take_le ps (k + 1)
          have hfl := flatten_take ps k hkl
          clear hc
          obtain ⟨p, hp⟩ : ∃ p, p = ps.getD k [] := ⟨_, rfl⟩
          rw [← hp] at h1 h2 h4 hst hfl
          rw [hst, ← hl1] at hle
          have Hfl := Lib.hid hfl
          have Hok := Lib.hid hok
          have Hbk := Lib.hid hbk
          clear hp hst hl1 hfl hok hbk
          go_wp2_with (at_builtin; go_loud (refine wpList_appB _ rfl (.tmp 31) (.tmp 32) 22 rfl w.heap.size 5 i0 Tryd.underlying22 Hi.out _ _ rfl Hok.out w.heap.size Ak _ ck p rfl rfl h4 (by omega) Hbk.out.size ?_); intro v2 w2 hown2 hg2 hat2 hbw2)
          all_goals
            refine ⟨⟨k + 1, by omega, by go_num, by rw [Hfl.out]; exact hown2, Hbk.out.trans hbw2⟩, by simp [intOf]; omega⟩
        · have hke : k = ps.length := by omega
          subst hke
          rw [List.take_length] at hok
          have Hok := Lib.hid hok
          clear hok
          go_wp2
          go_ret
          exact ⟨_, rfl, Hok.out, hbk⟩

set_option maxHeartbeats 400000 in
theorem join_calls (ps : List (List UInt8)) (A : Option Addr) (c : Nat) (w : World) (h : ReadBB w w.heap.size A ps) (hps : ps.length ≤ 140737488351232) (hsum : sumLen ps ≤ 140737488355328) :
    Calls Tryd.prog 57 #[.slice A ps.length c] w
    fun e w' => ∃ v, e = .returned v ∧ OwnB w' w.heap.size 5 v ps.flatten ∧ Below w.heap.size w w' := by
  go_enter Tryd.func57, Tryd.ntmps57
  go_wp2_with (go_at_call 75; go_must (refine (concat_calls ps A c _ h hps hsum).mono ?_); rintro e w1 ⟨v1, rfl, ho1, hb1⟩)
  go_ret
  exact ⟨_, rfl, ho1, hb1⟩
end Fi
end Go.Proofs.YtiofkhjpknfkgaaDoor
/- What operations make, to the program. -/
namespace Go.Proofs.YtiofkhjpknfkgaaDoor
namespace Dm
open Tm
theorem room_take : ∀ (l : List O) (k : Nat) (r : Int), room l r = true → room (l.take k) r = true
  | [], k, r, h => by simpa using h
  | x :: t, 0, r, h => by simp [room]
  | x :: t, k + 1, r, h => by
    obtain ⟨h1, h2⟩ := room_tail h
    rw [List.take_succ_cons]
    unfold room
    rw [if_neg (by omega)]
    exact room_take t k _ h2
theorem made_len (old : List UInt8) : ∀ (l : List O) (r : Int), 0 ≤ r → (∀ x ∈ l, may x old.length = true) → room l r = true → ((made old l).length : Int) ≤ r
  | [], r, h0, h, hr => by simpa [made] using h0
  | x :: t, r, h0, h, hr => by
    obtain ⟨h1, h2⟩ := room_tail hr
    have := made_len old t _ h1 (fun y hy => h y (by simp [hy])) h2
    have hp := piece_len (h x (by simp))
    unfold made at this ⊢
    rw [List.flatMap_cons, List.length_append]
    omega
theorem take_at (l : List O) (k : Nat) (h : k < l.length) : l.take (k + 1) = l.take k ++ [at_ l k] := by
  rw [List.take_succ_eq_append_getElem h]
  simp [at_, List.getD, h]
theorem made_take (old : List UInt8) (l : List O) (k : Nat) (h : k < l.length) : made old (l.take (k + 1)) = made old (l.take k) ++ piece old (at_ l k) := by
  rw [take_at l k h]
  simp [made]
theorem made_le {old : List UInt8} {l : List O} (h : check l old.length = 0) (k : Nat) : (made old (l.take k)).length ≤ 65536 := by
  obtain ⟨h1, h2, h3⟩ := check_ok h
  have := made_len old (l.take k) 65536 (by omega) (fun x hx => h2 x (List.mem_of_mem_take hx)) (room_take l k _ h3)
  omega
theorem apply_ok {old : List UInt8} {l : List O} (h : check l old.length = 0) : apply old l = (made old l, 0) := by unfold apply; rw [if_neg (by simpa using h)]
theorem apply_no {old : List UInt8} {l : List O} (h : check l old.length ≠ 0) : apply old l = ([], check l old.length) := by unfold apply; rw [if_pos h]
end Dm
namespace Dl
open Go.RowKit Ba Tm Dm Os_
set_option linter.unusedVariables false
set_option maxRecDepth 100000 in
set_option maxHeartbeats 4000000 in
theorem apply_calls (O : List UInt8) (Q : Option Addr) (m d : Nat) (hm : m = O.length) (hmd : m ≤ d) (hd : d ≤ 9223372036854775807) (L : List Ow) (A : Option Addr) (n c : Nat) (hn : n = L.length) (hl : n ≤ 9223372036854775807) (w : World) (hO : ReadB w w.heap.size Q O) (h : ReadO w w.heap.size A L) :
    Calls Tryd.prog 26 #[.slice Q m d, .slice A n c] w fun e w' => ∃ v, e = .returned (.tuple #[v, .int .i64 (apply O (ops L)).2]) ∧ OwnB w' w.heap.size 5 v (apply O (ops L)).1 ∧ Below w.heap.size w w' := by
  have hc := fun w h => check_calls L A n c (m : Int) hn hl (by omega) w h
  have hol : (ops L).length = n := by rw [ops_len, hn]
  by_cases hq : check (ops L) O.length = 0
  · rw [apply_ok hq]
    simp only
    rw [hm, hq] at hc
    have hml := fun k => made_le hq k
    have hmt := fun k => made_take O (ops L) k
    obtain ⟨h4, hmay, -⟩ := check_ok hq
    obtain ⟨i0, hi0⟩ := isByte_of Vi.info5
    have Hi := Lib.hid hi0
    have Hh := Lib.hid h
    have HO := Lib.hid hO
    have Hol := Lib.hid hol
    have Hn := Lib.hid hn
    have Hc := Lib.hid hc
    have Hml := Lib.hid hml
    have Hmt := Lib.hid hmt
    have Hmay := Lib.hid hmay
    have Hm := Lib.hid hm
    rw [← hm] at Hc Hmay
    have hn4 : n ≤ 4096 := by omega
    clear h hol hn hc hml hmt hmay hi0 hO hq hm h4
    go_enter Tryd.func26, Tryd.ntmps26
    go_wp2_with fail
    refine (Hc.out _ Hh.out).mono ?_
    rintro e w1 ⟨rfl, hb1⟩
    have HB1 := Lib.hid hb1
    clear hb1
    go_wp2_with fail
    go_loopg [7, 19] n (fun q v7 vi wr => ∃ k : Nat, k ≤ n ∧ q = n - k ∧ vi = .int .i64 (k : Int) ∧ OwnB wr w.heap.size 5 v7 (made O ((ops L).take k)) ∧ Below w.heap.size w wr)
    case atStart => exact ⟨0, by omega, rfl, rfl, by rw [List.take_zero]; exact OwnB.nil, HB1.out⟩
    case round =>
      obtain ⟨k, hk, hq, rfl, ho, hb⟩ := hrel
      have Hq := Lib.hid hq
      have Ho := Lib.hid ho
      have HB := Lib.hid hb
      clear hq ho hb HB1
      by_cases hkn : k < n
      · have hkl : k < L.length := by rw [← Hn.out]; exact hkn
        obtain ⟨b, o, x1, x2, x3, x4, D, e, rfl, hbB, hx, hc, w1, w2, w3, w4, w5⟩ := ReadO.op Hh.out hkl
        have hat := ops_at L k hkl
        rw [hx] at hat
        have HC : Hid (wr.rangeAt b (o + k * 4) [.bool x1, .int .i64 x2, .int .i64 x3, .slice D x4.length e]) := Lib.hid fun jj v hv => (HB.out.cell (p := ⟨b, o + k * 4 + jj, none⟩) hbB).trans (hc jj v hv)
        have hko : k < (ops L).length := by rw [Hol.out]; exact hkn
        have hmy := Hmay.out _ (mem_at (ops L) k hko)
        have hs := Hmt.out k hko
        have hmx := Hml.out (k + 1)
        rw [hs, List.length_append] at hmx
        rw [hat] at hmy hs hmx
        obtain ⟨q, hqq⟩ : ∃ q, q = made O ((ops L).take k) := ⟨_, rfl⟩
        rw [← hqq] at Ho hs hmx
        cases x1 with
        | true =>
          obtain ⟨m1, m2, m3, m4⟩ := may_copy (x := ⟨true, x2, x3, x4⟩) rfl hmy
          simp only at m1 m2 m3 m4
          obtain ⟨p, rfl⟩ : ∃ p : Nat, x2 = (p : Int) := ⟨x2.toNat, by omega⟩
          obtain ⟨z, rfl⟩ : ∃ z : Nat, x3 = (z : Int) := ⟨x3.toNat, by omega⟩
          have hpc : piece O ⟨true, (p : Int), (z : Int), x4⟩ = (O.drop p).take z := by simp [piece]
          rw [hpc] at hs hmx
          obtain ⟨b2, o2, hQ, -, -⟩ := HO.out (by rw [← Hm.out]; omega)
          subst hQ
          have hpl : ((O.drop p).take z).length = z := by rw [List.length_take, List.length_drop, ← Hm.out]; omega
          have HR : Hid (ReadB wr w.heap.size (some ⟨b2, o2 + p, none⟩) ((O.drop p).take z)) := Lib.hid ((HO.out.below HB.out).drop p |>.take z)
          obtain ⟨P, hP⟩ : ∃ P, P = (O.drop p).take z := ⟨_, rfl⟩
          rw [← hP] at hs hmx hpl HR
          have Hs := Lib.hid hs
          have Hpl := Lib.hid hpl
          have Hql := Lib.hid hmx
          have i4 : (p : Int) + (z : Int) ≤ 9223372036854775807 := by omega
          have hsl := fun w' => sl_lh (P := Tryd.prog) 22 5 i0 Tryd.underlying22 Hi.out b2 o2 m d (p : Int) ((p : Int) + (z : Int)) p z rfl rfl (by omega) (by omega) w'
          clear hx hc w5 hat hs hmx hpl hP hqq hmy m1 m2 m3 m4 hpc hko
          go_wp2_with (first | (refine wpList_load_mid rfl 40 (.tmp 21) rfl b (o + k * 4) rfl [.bool true, .int .i64 (p : Int), .int .i64 (z : Int), .slice D x4.length e] _ HC.out Tryd.underlying40 rfl (by kernel_rfl) ?_) | (at_builtin; go_loud (refine wpList_appB _ rfl (.tmp 25) (.tmp 34) 22 rfl w.heap.size 5 i0 Tryd.underlying22 Hi.out _ _ rfl (Ho.out.alloc _) w.heap.size (some ⟨b2, o2 + p, none⟩) z (d - p) P rfl Hpl.out.symm (HR.out.alloc HB.out.size _) (by have := Hql.out; omega) (by have := HB.out.size; simp; omega) ?_); intro v5 w5 ho5 hg5 _ hb5))
          have Ho5 := Lib.hid ho5
          have HB5 := Lib.hid ((HB.out.alloc HB.out.size _).trans hb5)
          clear ho5 hg5 hb5
          go_wp2_with fail
          go_roundg (n - (k + 1))
          case rel => exact ⟨k + 1, by omega, rfl, rfl, by rw [Hs.out]; exact Ho5.out, HB5.out⟩
          case measure => have := Hq.out; omega
        | false =>
          have hpc : piece O ⟨false, x2, x3, x4⟩ = x4 := by simp [piece]
          rw [hpc] at hs hmx
          have Hs := Lib.hid hs
          have Hql := Lib.hid hmx
          have HR : Hid (ReadB wr w.heap.size D x4) := Lib.hid (w5.below HB.out)
          clear hx hc w5 hat hs hmx hqq hmy hpc hko
          go_wp2_with (first | (refine wpList_load_mid rfl 40 (.tmp 21) rfl b (o + k * 4) rfl [.bool false, .int .i64 x2, .int .i64 x3, .slice D x4.length e] _ HC.out Tryd.underlying40 rfl (by kernel_rfl) ?_) | (at_builtin; go_loud (refine wpList_appB _ rfl (.tmp 36) (.tmp 38) 22 rfl w.heap.size 5 i0 Tryd.underlying22 Hi.out _ _ rfl (Ho.out.alloc _) w.heap.size D x4.length e x4 rfl rfl (HR.out.alloc HB.out.size _) (by have := Hql.out; omega) (by have := HB.out.size; simp; omega) ?_); intro v5 w5 ho5 hg5 _ hb5))
          have Ho5 := Lib.hid ho5
          have HB5 := Lib.hid ((HB.out.alloc HB.out.size _).trans hb5)
          clear ho5 hg5 hb5
          go_wp2_with fail
          go_roundg (n - (k + 1))
          case rel => exact ⟨k + 1, by omega, rfl, rfl, by rw [Hs.out]; exact Ho5.out, HB5.out⟩
          case measure => have := Hq.out; omega
      · have hke : k = n := by omega
        go_wp2_with fail
        go_ret2
        refine ⟨_, rfl, ?_, HB.out⟩
        have ho := Ho.out
        rw [List.take_of_length_le (by rw [Hol.out]; omega)] at ho
        exact ho
  · rw [apply_no hq]
    simp only
    rw [hm] at hc
    have Hc := Lib.hid hc
    have Hq := Lib.hid hq
    rw [← hm] at Hc Hq
    have Hh := Lib.hid h
    clear hc hq
    rw [← hm]
    generalize check (ops L) (m : Int) = q at *
    clear hm hn hol h hO hl
    go_enter Tryd.func26, Tryd.ntmps26
    go_wp2_with fail
    refine (Hc.out _ Hh.out).mono ?_
    rintro e w1 ⟨rfl, hb1⟩
    have HB1 := Lib.hid hb1
    have t1 : (q == 0) = false := by simpa using Hq.out
    clear hb1
    go_wp2_with fail
    go_ret2
    exact ⟨_, rfl, OwnB.nil, HB1.out⟩
end Dl
end Go.Proofs.YtiofkhjpknfkgaaDoor
/- Operations as bytes, to the program. -/
namespace Go.Proofs.YtiofkhjpknfkgaaDoor
namespace Dm
open Tm
theorem put_take (l : List O) (k : Nat) (h : k < l.length) : put (l.take (k + 1)) = put (l.take k) ++ putx (at_ l k) := by
  rw [take_at l k h]
  simp [put]
theorem putx_len (x : O) (h : x.data.length ≤ 65536) : (putx x).length ≤ 65560 := by
  unfold putx
  split
  · have h1 := Fm.num_len x.pos
    have h2 := Fm.num_len x.n
    simp only [List.length_cons, List.length_append]
    omega
  · have h1 := Fm.num_len (x.data.length : Int)
    simp only [List.length_cons, List.length_append, Fm.text]
    omega
theorem put_len : ∀ (l : List O), (∀ x ∈ l, x.data.length ≤ 65536) → (put l).length ≤ 65560 * l.length
  | [], h => by simp [put]
  | x :: t, h => by
    have h1 := put_len t (fun y hy => h y (by simp [hy]))
    have h2 := putx_len x (h x (by simp))
    unfold put at h1 ⊢
    rw [List.flatMap_cons, List.length_append, List.length_cons]
    omega
end Dm
namespace Dl
open Go.RowKit Ba Tm Dm Os_
set_option linter.unusedVariables false
theorem strof_dl (W : World) (B : Nat) (A : Option Addr) (c : Nat) (l : List UInt8) (h : ReadB W B A l) : (convert 22 9 (.slice A l.length c)).run Tryd.prog W = .ok (.string (S l)) W :=
  run_strof W 22 5 Tryd.underlying22 Tryd.underlying5 A c B l h 9 Tryd.underlying9
set_option maxRecDepth 100000 in
set_option maxHeartbeats 8000000 in
theorem put_calls (L : List Ow) (A : Option Addr) (n c : Nat) (hn : n = L.length) (h4 : n ≤ 4096) (hd : ∀ x ∈ ops L, x.data.length ≤ 65536) (w : World) (h : ReadO w w.heap.size A L) :
    Calls Tryd.prog 25 #[.slice A n c] w fun e w' => ∃ v, e = .returned v ∧ OwnB w' w.heap.size 5 v (put (ops L)) ∧ Below w.heap.size w w' := by
  have hol : (ops L).length = n := by rw [ops_len, hn]
  have hpt := fun k hk => put_take (ops L) k hk
  have hpl := fun k => put_len ((ops L).take k) (fun x hx => hd x (List.mem_of_mem_take hx))
  have hds := fun k hk => hd (at_ (ops L) k) (mem_at (ops L) k hk)
  obtain ⟨i0, hi0⟩ := isByte_of Vi.info5
  have Hi := Lib.hid hi0
  have Hh := Lib.hid h
  have Hol := Lib.hid hol
  have Hn := Lib.hid hn
  have Hpt := Lib.hid hpt
  have Hpl := Lib.hid hpl
  have Hds := Lib.hid hds
  clear hi0 h hol hn hpt hpl hds hd
  go_enter Tryd.func25, Tryd.ntmps25
  go_wp2_with fail
  go_loopg [3, 8] n (fun q v3 vi wr => ∃ k : Nat, k ≤ n ∧ q = n - k ∧ vi = .int .i64 (k : Int) ∧ OwnB wr w.heap.size 5 v3 (put ((ops L).take k)) ∧ Below w.heap.size w wr)
  case atStart => exact ⟨0, by omega, rfl, rfl, by rw [List.take_zero]; exact OwnB.nil, Below.refl _ _⟩
  case round =>
    obtain ⟨k, hk, hq, rfl, ho, hb⟩ := hrel
    have Hq := Lib.hid hq
    have Ho := Lib.hid ho
    have HB := Lib.hid hb
    clear hq ho hb
    by_cases hkn : k < n
    · have hkl : k < L.length := by rw [← Hn.out]; exact hkn
      obtain ⟨b, o, x1, x2, x3, x4, D, e, rfl, hbB, hx, hc, w1, w2, w3, w4, w5⟩ := ReadO.op Hh.out hkl
      have hat := ops_at L k hkl
      rw [hx] at hat
      have HC : Hid (wr.rangeAt b (o + k * 4) [.bool x1, .int .i64 x2, .int .i64 x3, .slice D x4.length e]) := Lib.hid fun jj v hv => (HB.out.cell (p := ⟨b, o + k * 4 + jj, none⟩) hbB).trans (hc jj v hv)
      have hko : k < (ops L).length := by rw [Hol.out]; exact hkn
      have hs := Hpt.out k hko
      have hql := Hpl.out k
      have hdl := Hds.out k hko
      rw [List.length_take, Hol.out] at hql
      rw [hat] at hs hdl
      simp only at hdl
      obtain ⟨q, hqq⟩ : ∃ q, q = put ((ops L).take k) := ⟨_, rfl⟩
      rw [← hqq] at Ho hs hql
      have hq4 : q.length ≤ 65560 * 4096 := by omega
      have Hx4 : Hid (x4.length ≤ 65536) := Lib.hid hdl
      have Hq4 := Lib.hid hq4
      cases x1 with
      | true =>
        obtain ⟨P1, hP1⟩ : ∃ P1, P1 = Fm.num x2 := ⟨_, rfl⟩
        obtain ⟨P2, hP2⟩ : ∃ P2, P2 = Fm.num x3 := ⟨_, rfl⟩
        have hs2 : put ((ops L).take (k + 1)) = q ++ ([1] ++ P1 ++ P2) := by rw [hs, hP1, hP2]; simp [putx]
        have hn1 := fun w => Fi.num_calls x2 w1.2 w
        have hn2 := fun w => Fi.num_calls x3 w2.2 w
        have hl1 := Fm.num_len x2
        have hl2 := Fm.num_len x3
        rw [← hP1] at hn1 hl1
        rw [← hP2] at hn2 hl2
        have Hs := Lib.hid hs2
        have H1 := Lib.hid hn1
        have H2 := Lib.hid hn2
        have Hl1 := Lib.hid hl1
        have Hl2 := Lib.hid hl2
        clear hx hc w5 hat hs hs2 hn1 hn2 hP1 hP2 hl1 hl2 hql hdl hqq hq4 hko
        go_wp2_with (refine wpList_load_mid rfl 40 (.tmp 10) rfl b (o + k * 4) rfl [.bool true, .int .i64 x2, .int .i64 x3, .slice D x4.length e] _ HC.out Tryd.underlying40 rfl (by kernel_rfl) ?_)
        have hc1 : (wr.alloc (.cells #[.bool true, .int .i64 x2, .int .i64 x3, .slice D x4.length e] 40)).drew.cell? ⟨wr.heap.size, 1, none⟩ = some (.int .i64 x2) := by rw [show (wr.alloc (.cells #[.bool true, .int .i64 x2, .int .i64 x3, .slice D x4.length e] 40)).drew.cell? ⟨wr.heap.size, 1, none⟩ = (wr.alloc (.cells #[.bool true, .int .i64 x2, .int .i64 x3, .slice D x4.length e] 40)).cell? ⟨wr.heap.size, 1, none⟩ from rfl, cell_of_row _ wr.heap.size 1 _ _ (0, 0) (heap_alloc_new wr _)]; rfl
        have hc2 : (wr.alloc (.cells #[.bool true, .int .i64 x2, .int .i64 x3, .slice D x4.length e] 40)).drew.cell? ⟨wr.heap.size, 2, none⟩ = some (.int .i64 x3) := by rw [show (wr.alloc (.cells #[.bool true, .int .i64 x2, .int .i64 x3, .slice D x4.length e] 40)).drew.cell? ⟨wr.heap.size, 2, none⟩ = (wr.alloc (.cells #[.bool true, .int .i64 x2, .int .i64 x3, .slice D x4.length e] 40)).cell? ⟨wr.heap.size, 2, none⟩ from rfl, cell_of_row _ wr.heap.size 2 _ _ (0, 0) (heap_alloc_new wr _)]; rfl
        refine CanT.region (fun w' => w'.cell? ⟨wr.heap.size, 1, none⟩ = some (.int .i64 x2) ∧ w'.cell? ⟨wr.heap.size, 2, none⟩ = some (.int .i64 x3)) 1000 (.op 0 2 (.op 2 2 (.op 3 1 (.op 5 2 (.op 6 1 (.fork (.op 1 0 (.op 4 0 (.op 7 0 (.op 8 0 (.op 9 0 (.op 10 0 (.op 11 2 (.nil)))))))) (.op 4 0 (.fork (.op 1 0 (.op 7 0 (.op 8 0 (.op 9 0 (.op 10 0 (.op 11 2 (.nil))))))) (.op 7 0 (.op 1 0 (.op 8 0 (.op 9 0 (.op 10 0 (.op 11 2 (.nil))))))))))))))) (by kernel_rfl) (by kernel_rfl) ⟨hc1, hc2⟩ ?_
        have hlt : wr.heap.size < (wr.alloc (.cells #[.bool true, .int .i64 x2, .int .i64 x3, .slice D x4.length e] 40)).drew.heap.size := by simp
        have hBs := (HB.out.alloc HB.out.size (.cells #[.bool true, .int .i64 x2, .int .i64 x3, .slice D x4.length e] 40)).drew
        have hOs := (Ho.out.alloc (.cells #[.bool true, .int .i64 x2, .int .i64 x3, .slice D x4.length e] 40)).drew
        have hne : ∀ g, u3.ownBlock = some g → g ≠ wr.heap.size := fun g hg e => by have := (World.ownsRow.lt Ho.out g hg).2; omega
        have Hne := Lib.hid hne
        clear hne
        generalize (wr.alloc (.cells #[.bool true, .int .i64 x2, .int .i64 x3, .slice D x4.length e] 40)).drew = ws at *
        have hF : ∀ W : World, Below ws.heap.size ws W → W.cell? ⟨wr.heap.size, 1, none⟩ = some (.int .i64 x2) ∧ W.cell? ⟨wr.heap.size, 2, none⟩ = some (.int .i64 x3) := fun W h => ⟨(h.cell (p := ⟨wr.heap.size, 1, none⟩) hlt).trans hc1, (h.cell (p := ⟨wr.heap.size, 2, none⟩) hlt).trans hc2⟩
        have HF := Lib.hid hF
        clear hF
        have HBs := Lib.hid hBs
        have HOs := Lib.hid hOs
        have HC1 := Lib.hid hc1
        have HC2 := Lib.hid hc2
        have Hlt := Lib.hid hlt
        have hl1 := Hl1.out
        have hl2 := Hl2.out
        have hW : Below ws.heap.size ws ws := Below.refl _ _
        clear hBs hOs hc1 hc2 hlt HC Ho HB
        repeat (first | (refine CanT.skip rfl ?_ (fun K hK => ?_); (focus (go_simp; done)); go_simp; refine hK _ ?_; clear hK K) | (refine CanT.pur rfl ?_ ?_; (focus (go_simp; done)); refine ⟨?_, ?_, ?_⟩; rotate_left; (focus (intro w'; go_simp; rfl)); (focus (intro K hK; go_simp; refine hK _ ?_; clear hK K))) | (refine CanT.cellG rfl ?_ (.int .i64 x2) (.int .i64 x2) ⟨wr.heap.size, 1, none⟩ (fun w1 h => h.1) ?_ (fun K hK => ?_); (focus (go_simp; done)); (focus (intro w' hc'; go_simp; (try rfl))); go_simp; refine hK _ ?_; clear hK K) | (refine CanT.cellG rfl ?_ (.int .i64 x3) (.int .i64 x3) ⟨wr.heap.size, 2, none⟩ (fun w1 h => h.2) ?_ (fun K hK => ?_); (focus (go_simp; done)); (focus (intro w' hc'; go_simp; (try rfl))); go_simp; refine hK _ ?_; clear hK K))
        refine CanT.both ?_ ?_
        · refine CanT.imp rfl (fun K hK => ?_)
          go_simp
          obtain ⟨wl, hwl⟩ : ∃ wl, wl = ws.alloc (.cells #[.int .u8 1] 5) := ⟨_, rfl⟩
          have hR0 : ReadB wl wl.heap.size (some ⟨ws.heap.size, 0, none⟩) [1] := by rw [hwl]; simpa using ReadB.lit1 ws 5 1 1 rfl
          have hbl : Below ws.heap.size ws wl := by rw [hwl]; exact (Below.refl _ _).alloc (Nat.le_refl _) _
          rw [← hwl]
          obtain ⟨g0, hg0⟩ : ∃ g0, g0 = ws.heap.size := ⟨_, rfl⟩
          rw [← hg0] at hR0 ⊢
          have hW := hW.trans (hbl.mono hW.size)
          refine hK.out _ _ (HF.out _ hW) ?_
          clear hK K hwl hg0 hbl
          refine CanT.imp rfl (fun K hK => ?_)
          go_simp
          refine Calls.mono (H1.out _) ?_
          rintro e1 wn1 ⟨v1, rfl, ho1, hb1⟩
          obtain ⟨A1, c1, rfl, hp1, hm1, hR1, -⟩ := ho1.opens
          have hR0 := (hR0.below hb1).more hb1.size
          have hW := hW.trans (hb1.mono hW.size)
          (try go_simp)
          refine hK.out _ _ (HF.out _ hW) ?_
          clear hK K ho1 hb1
          refine CanT.imp rfl (fun K hK => ?_)
          go_simp
          refine Calls.mono (H2.out _) ?_
          rintro e2 wn2 ⟨v2, rfl, ho2, hb2⟩
          obtain ⟨A2, c2, rfl, hp2, hm2, hR2, -⟩ := ho2.opens
          have hR0 := (hR0.below hb2).more hb2.size
          have hR1 := (hR1.below hb2).more hb2.size
          have hW := hW.trans (hb2.mono hW.size)
          (try go_simp)
          refine hK.out _ _ (HF.out _ hW) ?_
          clear hK K ho2 hb2
          have hbb : ReadBB (wn2.alloc (.cells #[.slice (some ⟨g0, 0, none⟩) 1 1, .slice A1 P1.length c1, .slice A2 P2.length c2] 22)) (wn2.alloc (.cells #[.slice (some ⟨g0, 0, none⟩) 1 1, .slice A1 P1.length c1, .slice A2 P2.length c2] 22)).heap.size (some ⟨wn2.heap.size, 0, none⟩) [[1], P1, P2] :=
            (ReadBB.lit3 wn2 22 (some ⟨g0, 0, none⟩) A1 A2 1 1 P1.length c1 P2.length c2 [1] P1 P2 wn2.heap.size wn2.heap.size rfl (Nat.le_refl _) rfl rfl rfl hR0 hR1 hR2 (by simp) hp1 hp2 (by simp) hm1 hm2).more (by simp)
          have hjn := Fi.join_calls [[1], P1, P2] (some ⟨wn2.heap.size, 0, none⟩) 3 _ hbb (by simp) (by simp [Fi.sumLen]; omega)
          have Hjn := Lib.hid hjn
          clear hbb hjn hR0 hR1 hR2
          refine CanT.imp rfl (fun K hK => ?_)
          go_simp
          have hW2 := hW.alloc hW.size (.cells #[.slice (some ⟨g0, 0, none⟩) 1 1, .slice A1 P1.length c1, .slice A2 P2.length c2] 22)
          refine hK.out _ _ (HF.out _ hW2) ?_
          clear hK K
          refine CanT.imp rfl (fun K hK => ?_)
          go_simp
          refine Calls.mono Hjn.out ?_
          rintro e5 w5' ⟨v5, rfl, ho5, hb5⟩
          obtain ⟨A5, c5, rfl, hp5, hm5, hR5, -⟩ := ho5.opens
          have hW5 := hW2.trans (hb5.mono hW2.size)
          (try go_simp)
          refine hK.out _ _ (HF.out _ hW5) ?_
          clear hK K hW2 hb5 ho5
          have hfl : [[1], P1, P2].flatten = [1] ++ P1 ++ P2 := by simp
          rw [hfl] at hR5 hp5
          have hl5 : ([1] ++ P1 ++ P2).length ≤ 17 := by simp only [List.length_append, List.length_cons, List.length_nil]; omega
          have hoq := HOs.out.keptB hW5
          refine CanT.imp rfl (fun K hK => ?_)
          refine CanF.step_appBg _ ?_ (.tmp 14) (.tmp 23) 22 rfl w.heap.size 5 i0 Tryd.underlying22 Hi.out _ _ rfl hoq w5'.heap.size A5 _ c5 ([1] ++ P1 ++ P2) rfl (by simp only [List.length_append, List.length_cons, List.length_nil]; omega) hR5 (by have := Hq4.out; omega) (by have := hW5.size; have := HBs.out.size; omega) ?_
          focus (go_simp; done)
          intro v6 w6 ho6 hg6 _ hb6
          have HO6 := Lib.hid ho6
          have HB6 := Lib.hid (HBs.out.trans (((hW5.mono HBs.out.size)).trans hb6))
          have hf5 := HF.out _ hW5
          have hsz5 : wr.heap.size < w5'.heap.size := by have := hW5.size; have := Hlt.out; omega
          have hf6 : w6.cell? ⟨wr.heap.size, 1, none⟩ = some (.int .i64 x2) ∧ w6.cell? ⟨wr.heap.size, 2, none⟩ = some (.int .i64 x3) := ⟨(World.cell?_of_block (hg6.block wr.heap.size hsz5 (fun e => Hne.out _ e.symm rfl))).trans hf5.1, (World.cell?_of_block (hg6.block wr.heap.size hsz5 (fun e => Hne.out _ e.symm rfl))).trans hf5.2⟩
          (try go_simp)
          refine hK.out _ _ hf6 ?_
          clear hK K hf5 hsz5 hf6 hW5 hR5 ho6 hg6 hb6 hoq hW
          repeat (first | (refine CanT.skip rfl ?_ (fun K hK => ?_); (focus (go_simp; done)); go_simp; refine hK _ ?_; clear hK K) | (refine CanT.pur rfl ?_ ?_; (focus (go_simp; done)); refine ⟨?_, ?_, ?_⟩; rotate_left; (focus (intro w'; go_simp; rfl)); (focus (intro K hK; go_simp; refine hK _ ?_; clear hK K))))
          refine CanT.done ?_
          go_wp2_with fail
          go_roundg (n - (k + 1))
          case rel => exact ⟨k + 1, by omega, rfl, rfl, by rw [Hs.out]; exact HO6.out, HB6.out⟩
          case measure => have := Hq.out; omega
        · refine CanT.imp rfl (fun K hK => ?_)
          go_simp
          refine Calls.mono (H1.out _) ?_
          rintro e1 wn1 ⟨v1, rfl, ho1, hb1⟩
          obtain ⟨A1, c1, rfl, hp1, hm1, hR1, -⟩ := ho1.opens
          have hW := hW.trans (hb1.mono hW.size)
          (try go_simp)
          refine hK.out _ _ (HF.out _ hW) ?_
          clear hK K ho1 hb1
          refine CanT.both ?_ ?_
          · refine CanT.imp rfl (fun K hK => ?_)
            go_simp
            obtain ⟨wl, hwl⟩ : ∃ wl, wl = wn1.alloc (.cells #[.int .u8 1] 5) := ⟨_, rfl⟩
            have hR0 : ReadB wl wl.heap.size (some ⟨wn1.heap.size, 0, none⟩) [1] := by rw [hwl]; simpa using ReadB.lit1 wn1 5 1 1 rfl
            have hbl : Below wn1.heap.size wn1 wl := by rw [hwl]; exact (Below.refl _ _).alloc (Nat.le_refl _) _
            rw [← hwl]
            obtain ⟨g0, hg0⟩ : ∃ g0, g0 = wn1.heap.size := ⟨_, rfl⟩
            rw [← hg0] at hR0 ⊢
            have hR1 := (hR1.below hbl).more hbl.size
            have hW := hW.trans (hbl.mono hW.size)
            refine hK.out _ _ (HF.out _ hW) ?_
            clear hK K hwl hg0 hbl
            refine CanT.imp rfl (fun K hK => ?_)
            go_simp
            refine Calls.mono (H2.out _) ?_
            rintro e2 wn2 ⟨v2, rfl, ho2, hb2⟩
            obtain ⟨A2, c2, rfl, hp2, hm2, hR2, -⟩ := ho2.opens
            have hR1 := (hR1.below hb2).more hb2.size
            have hR0 := (hR0.below hb2).more hb2.size
            have hW := hW.trans (hb2.mono hW.size)
            (try go_simp)
            refine hK.out _ _ (HF.out _ hW) ?_
            clear hK K ho2 hb2
            have hbb : ReadBB (wn2.alloc (.cells #[.slice (some ⟨g0, 0, none⟩) 1 1, .slice A1 P1.length c1, .slice A2 P2.length c2] 22)) (wn2.alloc (.cells #[.slice (some ⟨g0, 0, none⟩) 1 1, .slice A1 P1.length c1, .slice A2 P2.length c2] 22)).heap.size (some ⟨wn2.heap.size, 0, none⟩) [[1], P1, P2] :=
              (ReadBB.lit3 wn2 22 (some ⟨g0, 0, none⟩) A1 A2 1 1 P1.length c1 P2.length c2 [1] P1 P2 wn2.heap.size wn2.heap.size rfl (Nat.le_refl _) rfl rfl rfl hR0 hR1 hR2 (by simp) hp1 hp2 (by simp) hm1 hm2).more (by simp)
            have hjn := Fi.join_calls [[1], P1, P2] (some ⟨wn2.heap.size, 0, none⟩) 3 _ hbb (by simp) (by simp [Fi.sumLen]; omega)
            have Hjn := Lib.hid hjn
            clear hbb hjn hR0 hR1 hR2
            refine CanT.imp rfl (fun K hK => ?_)
            go_simp
            have hW2 := hW.alloc hW.size (.cells #[.slice (some ⟨g0, 0, none⟩) 1 1, .slice A1 P1.length c1, .slice A2 P2.length c2] 22)
            refine hK.out _ _ (HF.out _ hW2) ?_
            clear hK K
            refine CanT.imp rfl (fun K hK => ?_)
            go_simp
            refine Calls.mono Hjn.out ?_
            rintro e5 w5' ⟨v5, rfl, ho5, hb5⟩
            obtain ⟨A5, c5, rfl, hp5, hm5, hR5, -⟩ := ho5.opens
            have hW5 := hW2.trans (hb5.mono hW2.size)
            (try go_simp)
            refine hK.out _ _ (HF.out _ hW5) ?_
            clear hK K hW2 hb5 ho5
            have hfl : [[1], P1, P2].flatten = [1] ++ P1 ++ P2 := by simp
            rw [hfl] at hR5 hp5
            have hl5 : ([1] ++ P1 ++ P2).length ≤ 17 := by simp only [List.length_append, List.length_cons, List.length_nil]; omega
            have hoq := HOs.out.keptB hW5
            refine CanT.imp rfl (fun K hK => ?_)
            refine CanF.step_appBg _ ?_ (.tmp 14) (.tmp 23) 22 rfl w.heap.size 5 i0 Tryd.underlying22 Hi.out _ _ rfl hoq w5'.heap.size A5 _ c5 ([1] ++ P1 ++ P2) rfl (by simp only [List.length_append, List.length_cons, List.length_nil]; omega) hR5 (by have := Hq4.out; omega) (by have := hW5.size; have := HBs.out.size; omega) ?_
            focus (go_simp; done)
            intro v6 w6 ho6 hg6 _ hb6
            have HO6 := Lib.hid ho6
            have HB6 := Lib.hid (HBs.out.trans (((hW5.mono HBs.out.size)).trans hb6))
            have hf5 := HF.out _ hW5
            have hsz5 : wr.heap.size < w5'.heap.size := by have := hW5.size; have := Hlt.out; omega
            have hf6 : w6.cell? ⟨wr.heap.size, 1, none⟩ = some (.int .i64 x2) ∧ w6.cell? ⟨wr.heap.size, 2, none⟩ = some (.int .i64 x3) := ⟨(World.cell?_of_block (hg6.block wr.heap.size hsz5 (fun e => Hne.out _ e.symm rfl))).trans hf5.1, (World.cell?_of_block (hg6.block wr.heap.size hsz5 (fun e => Hne.out _ e.symm rfl))).trans hf5.2⟩
            (try go_simp)
            refine hK.out _ _ hf6 ?_
            clear hK K hf5 hsz5 hf6 hW5 hR5 ho6 hg6 hb6 hoq hW
            repeat (first | (refine CanT.skip rfl ?_ (fun K hK => ?_); (focus (go_simp; done)); go_simp; refine hK _ ?_; clear hK K) | (refine CanT.pur rfl ?_ ?_; (focus (go_simp; done)); refine ⟨?_, ?_, ?_⟩; rotate_left; (focus (intro w'; go_simp; rfl)); (focus (intro K hK; go_simp; refine hK _ ?_; clear hK K))))
            refine CanT.done ?_
            go_wp2_with fail
            go_roundg (n - (k + 1))
            case rel => exact ⟨k + 1, by omega, rfl, rfl, by rw [Hs.out]; exact HO6.out, HB6.out⟩
            case measure => have := Hq.out; omega
          · refine CanT.imp rfl (fun K hK => ?_)
            go_simp
            refine Calls.mono (H2.out _) ?_
            rintro e2 wn2 ⟨v2, rfl, ho2, hb2⟩
            obtain ⟨A2, c2, rfl, hp2, hm2, hR2, -⟩ := ho2.opens
            have hR1 := (hR1.below hb2).more hb2.size
            have hW := hW.trans (hb2.mono hW.size)
            (try go_simp)
            refine hK.out _ _ (HF.out _ hW) ?_
            clear hK K ho2 hb2
            refine CanT.imp rfl (fun K hK => ?_)
            go_simp
            obtain ⟨wl, hwl⟩ : ∃ wl, wl = wn2.alloc (.cells #[.int .u8 1] 5) := ⟨_, rfl⟩
            have hR0 : ReadB wl wl.heap.size (some ⟨wn2.heap.size, 0, none⟩) [1] := by rw [hwl]; simpa using ReadB.lit1 wn2 5 1 1 rfl
            have hbl : Below wn2.heap.size wn2 wl := by rw [hwl]; exact (Below.refl _ _).alloc (Nat.le_refl _) _
            rw [← hwl]
            obtain ⟨g0, hg0⟩ : ∃ g0, g0 = wn2.heap.size := ⟨_, rfl⟩
            rw [← hg0] at hR0 ⊢
            have hR1 := (hR1.below hbl).more hbl.size
            have hR2 := (hR2.below hbl).more hbl.size
            have hW := hW.trans (hbl.mono hW.size)
            refine hK.out _ _ (HF.out _ hW) ?_
            clear hK K hwl hg0 hbl
            have hbb : ReadBB (wl.alloc (.cells #[.slice (some ⟨g0, 0, none⟩) 1 1, .slice A1 P1.length c1, .slice A2 P2.length c2] 22)) (wl.alloc (.cells #[.slice (some ⟨g0, 0, none⟩) 1 1, .slice A1 P1.length c1, .slice A2 P2.length c2] 22)).heap.size (some ⟨wl.heap.size, 0, none⟩) [[1], P1, P2] :=
              (ReadBB.lit3 wl 22 (some ⟨g0, 0, none⟩) A1 A2 1 1 P1.length c1 P2.length c2 [1] P1 P2 wl.heap.size wl.heap.size rfl (Nat.le_refl _) rfl rfl rfl hR0 hR1 hR2 (by simp) hp1 hp2 (by simp) hm1 hm2).more (by simp)
            have hjn := Fi.join_calls [[1], P1, P2] (some ⟨wl.heap.size, 0, none⟩) 3 _ hbb (by simp) (by simp [Fi.sumLen]; omega)
            have Hjn := Lib.hid hjn
            clear hbb hjn hR0 hR1 hR2
            refine CanT.imp rfl (fun K hK => ?_)
            go_simp
            have hW2 := hW.alloc hW.size (.cells #[.slice (some ⟨g0, 0, none⟩) 1 1, .slice A1 P1.length c1, .slice A2 P2.length c2] 22)
            refine hK.out _ _ (HF.out _ hW2) ?_
            clear hK K
            refine CanT.imp rfl (fun K hK => ?_)
            go_simp
            refine Calls.mono Hjn.out ?_
            rintro e5 w5' ⟨v5, rfl, ho5, hb5⟩
            obtain ⟨A5, c5, rfl, hp5, hm5, hR5, -⟩ := ho5.opens
            have hW5 := hW2.trans (hb5.mono hW2.size)
            (try go_simp)
            refine hK.out _ _ (HF.out _ hW5) ?_
            clear hK K hW2 hb5 ho5
            have hfl : [[1], P1, P2].flatten = [1] ++ P1 ++ P2 := by simp
            rw [hfl] at hR5 hp5
            have hl5 : ([1] ++ P1 ++ P2).length ≤ 17 := by simp only [List.length_append, List.length_cons, List.length_nil]; omega
            have hoq := HOs.out.keptB hW5
            refine CanT.imp rfl (fun K hK => ?_)
            refine CanF.step_appBg _ ?_ (.tmp 14) (.tmp 23) 22 rfl w.heap.size 5 i0 Tryd.underlying22 Hi.out _ _ rfl hoq w5'.heap.size A5 _ c5 ([1] ++ P1 ++ P2) rfl (by simp only [List.length_append, List.length_cons, List.length_nil]; omega) hR5 (by have := Hq4.out; omega) (by have := hW5.size; have := HBs.out.size; omega) ?_
            focus (go_simp; done)
            intro v6 w6 ho6 hg6 _ hb6
            have HO6 := Lib.hid ho6
            have HB6 := Lib.hid (HBs.out.trans (((hW5.mono HBs.out.size)).trans hb6))
            have hf5 := HF.out _ hW5
            have hsz5 : wr.heap.size < w5'.heap.size := by have := hW5.size; have := Hlt.out; omega
            have hf6 : w6.cell? ⟨wr.heap.size, 1, none⟩ = some (.int .i64 x2) ∧ w6.cell? ⟨wr.heap.size, 2, none⟩ = some (.int .i64 x3) := ⟨(World.cell?_of_block (hg6.block wr.heap.size hsz5 (fun e => Hne.out _ e.symm rfl))).trans hf5.1, (World.cell?_of_block (hg6.block wr.heap.size hsz5 (fun e => Hne.out _ e.symm rfl))).trans hf5.2⟩
            (try go_simp)
            refine hK.out _ _ hf6 ?_
            clear hK K hf5 hsz5 hf6 hW5 hR5 ho6 hg6 hb6 hoq hW
            repeat (first | (refine CanT.skip rfl ?_ (fun K hK => ?_); (focus (go_simp; done)); go_simp; refine hK _ ?_; clear hK K) | (refine CanT.pur rfl ?_ ?_; (focus (go_simp; done)); refine ⟨?_, ?_, ?_⟩; rotate_left; (focus (intro w'; go_simp; rfl)); (focus (intro K hK; go_simp; refine hK _ ?_; clear hK K))))
            refine CanT.done ?_
            go_wp2_with fail
            go_roundg (n - (k + 1))
            case rel => exact ⟨k + 1, by omega, rfl, rfl, by rw [Hs.out]; exact HO6.out, HB6.out⟩
            case measure => have := Hq.out; omega
      | false =>
        have hs2 : put ((ops L).take (k + 1)) = q ++ ([0] ++ Fm.text x4) := by rw [hs]; simp [putx]
        have Hs := Lib.hid hs2
        have HR : Hid (ReadB wr w.heap.size D x4) := Lib.hid (w5.below HB.out)
        have htl : (Fm.text x4).length ≤ 65544 := by
          have := Fm.num_len (x4.length : Int)
          have := Hx4.out
          simp only [Fm.text, List.length_append]
          omega
        have htx := fun w => Fi.text_calls x4 (by have := Hx4.out; omega) w
        obtain ⟨T, hT⟩ : ∃ T, T = Fm.text x4 := ⟨_, rfl⟩
        rw [← hT] at Hs htl htx
        have Htx := Lib.hid htx
        have Htl := Lib.hid htl
        clear hx hc w5 hat hs hs2 hT htl htx hql hdl hqq hq4 hko
        have hst := strof_dl (wr.alloc (.cells #[.bool false, .int .i64 x2, .int .i64 x3, .slice D x4.length e] 40) |>.alloc (.cells #[.int .u8 0] 5)) w.heap.size D e x4 ((HR.out.alloc HB.out.size _).alloc (by have := HB.out.size; simp; omega) _)
        have hr0 : ReadB (wr.alloc (.cells #[.bool false, .int .i64 x2, .int .i64 x3, .slice D x4.length e] 40) |>.alloc (.cells #[.int .u8 0] 5)) (wr.alloc (.cells #[.bool false, .int .i64 x2, .int .i64 x3, .slice D x4.length e] 40) |>.alloc (.cells #[.int .u8 0] 5)).heap.size (some ⟨wr.heap.size + 1, 0, none⟩) [0] := by simpa using ReadB.lit1 (wr.alloc (.cells #[.bool false, .int .i64 x2, .int .i64 x3, .slice D x4.length e] 40)) 5 0 0 rfl
        have hb0 : Below wr.heap.size wr (wr.alloc (.cells #[.bool false, .int .i64 x2, .int .i64 x3, .slice D x4.length e] 40) |>.alloc (.cells #[.int .u8 0] 5)) := ((Below.refl _ _).alloc (Nat.le_refl _) _).alloc (by simp) _
        have Hr0 := Lib.hid hr0
        have Hb0 := Lib.hid hb0
        clear hr0 hb0
        go_wp2_with (refine wpList_load_mid rfl 40 (.tmp 10) rfl b (o + k * 4) rfl [.bool false, .int .i64 x2, .int .i64 x3, .slice D x4.length e] _ HC.out Tryd.underlying40 rfl (by kernel_rfl) ?_)
        refine Calls.mono (Htx.out _) ?_
        rintro e1 w1' ⟨v1, rfl, ho1, hb1⟩
        obtain ⟨A1, c1, rfl, p1, p2, p3, -⟩ := ho1.opens
        have hbw : Below wr.heap.size wr w1' := Hb0.out.trans (hb1.mono (by simp; omega))
        have hbb : ReadBB (w1'.alloc (.cells #[.slice (some ⟨wr.heap.size + 1, 0, none⟩) 1 1, .slice A1 T.length c1] 22)) (w1'.alloc (.cells #[.slice (some ⟨wr.heap.size + 1, 0, none⟩) 1 1, .slice A1 T.length c1] 22)).heap.size (some ⟨w1'.heap.size, 0, none⟩) [[0], T] :=
          (ReadBB.lit2 w1' 22 (some ⟨wr.heap.size + 1, 0, none⟩) A1 1 1 T.length c1 [0] T w1'.heap.size w1'.heap.size rfl (Nat.le_refl _) rfl rfl ((Hr0.out.below hb1).more hb1.size) p3 (by simp) p1 (by simp) p2).more (by simp)
        have hjn := Fi.join_calls [[0], T] (some ⟨w1'.heap.size, 0, none⟩) 2 _ hbb (by simp) (by have := Htl.out; simp [Fi.sumLen]; omega)
        have Hjn := Lib.hid hjn
        have Hbw := Lib.hid hbw
        clear hbb hjn ho1 hb1 p3 hst Hr0 hbw
        go_wp2_with fail
        refine Calls.mono Hjn.out ?_
        rintro e5 w5' ⟨v5, rfl, ho5, hb5⟩
        obtain ⟨A5, c5, rfl, hp5, hm5, hR5, -⟩ := ho5.opens
        have hW5 := Hbw.out.trans (((Below.refl _ _).alloc (Nat.le_refl _) _).trans (hb5.mono (by simp)) |>.mono Hbw.out.size)
        have hfl : [[0], T].flatten = [0] ++ T := by simp
        rw [hfl] at hR5 hp5
        have hl5 : ([0] ++ T).length ≤ 65545 := by have := Htl.out; simp only [List.length_append, List.length_cons, List.length_nil]; omega
        have HO5 := Lib.hid (Ho.out.keptB hW5)
        have HW5 := Lib.hid (HB.out.trans (hW5.mono HB.out.size))
        have HR5 := Lib.hid hR5
        have Hfl : Hid (T.length + 1 = ([(0 : UInt8)] ++ T).length) := Lib.hid (by simp only [List.length_append, List.length_cons, List.length_nil]; omega)
        have Hl5 := Lib.hid hl5
        clear hR5 hb5 ho5 hW5 hfl hl5 Ho HB HR Hjn
        go_wp2_with (at_builtin; go_loud (refine wpList_appB _ rfl (.tmp 25) (.tmp 32) 22 rfl w.heap.size 5 i0 Tryd.underlying22 Hi.out _ _ rfl HO5.out w5'.heap.size A5 _ c5 ([0] ++ T) rfl Hfl.out HR5.out (by have := Hq4.out; have := Hl5.out; omega) (by have := HW5.out.size; omega) ?_); intro v6 w6 ho6 hg6 _ hb6)
        have HO6 := Lib.hid ho6
        have HB6 := Lib.hid (HW5.out.trans hb6)
        clear ho6 hg6 hb6
        go_wp2_with fail
        go_roundg (n - (k + 1))
        case rel => exact ⟨k + 1, by omega, rfl, rfl, by rw [Hs.out]; exact HO6.out, HB6.out⟩
        case measure => have := Hq.out; omega
    · have hke : k = n := by omega
      go_wp2_with fail
      go_ret
      refine ⟨_, rfl, ?_, HB.out⟩
      have ho := Ho.out
      rw [List.take_of_length_le (by rw [Hol.out]; omega)] at ho
      exact ho
end Dl
end Go.Proofs.YtiofkhjpknfkgaaDoor

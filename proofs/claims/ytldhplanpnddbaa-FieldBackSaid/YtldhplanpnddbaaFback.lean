/- The walk of the statement that a number and texts that are laid are taken off as they were. -/
import Derived.Test.YtldhplanpnddbaaFlaws
import Derived.Test.YtldhplanpnddbaaSlc
import Derived.Test.YtldhplanpnddbaaFjoin
import Derived.Test.YtldhplanpnddbaaCanS
namespace Go.Proofs.Ytldhplanpnddbaa
namespace Fl
open Go.RowKit Ba Vm Fm Vi
set_option linter.unusedVariables false

/-- texts one behind the other -/
def lay (ts : List (List UInt8)) : List UInt8 := (ts.map Fm.text).flatten
theorem lay_take (ts : List (List UInt8)) (k : Nat) (h : k < ts.length) : lay (ts.take (k + 1)) = lay (ts.take k) ++ Fm.text (ts.getD k []) := by
  unfold lay
  rw [List.take_succ_eq_append_getElem h, List.map_append, List.flatten_append]
  simp [List.getD, h]
theorem lay_drop (ts : List (List UInt8)) (k : Nat) (h : k < ts.length) : lay (ts.drop k) = Fm.text (ts.getD k []) ++ lay (ts.drop (k + 1)) := by
  unfold lay
  rw [List.drop_eq_getElem_cons h, List.map_cons, List.flatten_cons]
  simp [List.getD, h]
theorem lay_end (ts : List (List UInt8)) : lay (ts.drop ts.length) = [] := by simp [lay]
theorem text_le (r : List UInt8) : (Fm.text r).length ≤ r.length + 8 := by
  have := num_len r.length
  unfold Fm.text
  rw [List.length_append]; omega

theorem strof_in (W : World) (B : Nat) (A : Option Addr) (c : Nat) (l : List UInt8) (h : ReadB W B A l) : (convert 25 9 (.slice A l.length c)).run Try.prog W = .ok (.string (S l)) W :=
  run_strof W 25 5 Try.underlying25 Try.underlying5 A c B l h 9 Try.underlying9

/-- one more text is laid behind what is there -/
theorem more_calls (L : List UInt8) (A : Option Addr) (c : Nat) (r : List UInt8) (w : World) (g : Nat) (hg : g = w.heap.size) (h : ReadB w g A L) (hl : L.length ≤ c) (hm : c ≤ 9223372036854775807) (A2 : Option Addr) (c2 : Nat) (h2 : ReadB w g A2 r) (hl2 : r.length ≤ c2) (hm2 : c2 ≤ 9223372036854775807) (hs : L.length + r.length ≤ 281474976710656) :
    Calls Try.prog 30 #[.slice (some ⟨g, 0, none⟩) 2 2] (w.alloc (.cells #[.slice A L.length c, .slice A2 r.length c2] 25))
    fun e w' => ∃ A3 c3, e = .returned (.slice A3 (L ++ r).length c3) ∧ (L ++ r).length ≤ c3 ∧ c3 ≤ 9223372036854775807 ∧ ReadB w' w'.heap.size A3 (L ++ r) ∧ Below w.heap.size w w' := by
  subst hg
  refine (Fi.join2_calls [L, r] _ 2 _ ((ReadBB.lit2 w _ A A2 L.length c r.length c2 L r w.heap.size _ rfl (Nat.le_refl _) rfl rfl h h2 hl hl2 hm hm2).more (by simp)) (by simp) (by simp [Fi.sumLen]; omega)).mono ?_
  rintro e w' ⟨v, rfl, ho, hb⟩
  obtain ⟨A3, c3, rfl, k1, k2, k3, _⟩ := ho.opens
  have e : [L, r].flatten = L ++ r := by simp
  rw [e] at k1 k3 ⊢
  exact ⟨A3, c3, rfl, k1, k2, k3, (Below.alloc (Below.refl _ _) (Nat.le_refl _) _).trans (hb.mono (by simp))⟩

set_option maxHeartbeats 3200000 in
theorem back2_calls (n : Int) (hn : n ≤ 9223372036854775807) (ts : List (List UInt8)) (A : Option Addr) (c : Nat) (hlc : ts.length ≤ c) (hcm : c ≤ 9223372036854775807) (hts : ∀ r ∈ ts, r.length ≤ 9223372036854775807)
    (l : List UInt8) (Al : Option Addr) (cl : Nat) (hll : l.length ≤ cl) (hclm : cl ≤ 9223372036854775807) (hl : l.length ≤ 140737488351232) (w : World) (hr : ReadS w w.heap.size A ts) (hrl : ReadB w w.heap.size Al l) :
    Calls Try.prog 11 #[.int .i64 n, .slice A ts.length c, .slice Al l.length cl] w fun e w' => e = .returned (.bool true) ∧ Below w.heap.size w w' := by
  have fin : ∀ W, Below w.heap.size w W → Calls Try.prog 25 #[] W fun e w' => e = .returned (.bool true) ∧ Below w.heap.size w w' := fun W hW => (awake2_calls W).mono fun e w' ⟨h1, h2⟩ => ⟨h1, bthen hW h2⟩
  have Hf := Lib.hid fin
  have Hr := Lib.hid hr
  have Hrl := Lib.hid hrl
  have Hts := Lib.hid hts
  clear fin hr hrl hts
  by_cases hs : n < 0 ∨ 4611686018427387903 < n ∨ 60 < ts.length
  · go_enter Try.func11, Try.ntmps11
    by_cases h1 : n < 0
    · clear hs
      go_wp2_with (go_at_call 25; refine (Hf.out _ (Below.refl _ _)).mono ?_; rintro e w5 ⟨rfl, hb5⟩)
      go_ret
      exact ⟨rfl, hb5⟩
    · by_cases h2 : 4611686018427387903 < n
      · clear hs
        go_wp2_with (go_at_call 25; refine (Hf.out _ (Below.refl _ _)).mono ?_; rintro e w5 ⟨rfl, hb5⟩)
        go_ret
        exact ⟨rfl, hb5⟩
      · have h3 : 60 < ts.length := by omega
        clear hs
        go_wp2_with (go_at_call 25; refine (Hf.out _ (Below.refl _ _)).mono ?_; rintro e w5 ⟨rfl, hb5⟩)
        go_ret
        exact ⟨rfl, hb5⟩
  · obtain ⟨n, rfl⟩ : ∃ k : Nat, n = (k : Int) := ⟨n.toNat, by omega⟩
    have hn2 : n ≤ 4611686018427387903 := by omega
    have ht60 : ts.length ≤ 60 := by omega
    clear hs
    obtain ⟨LN, hLN⟩ : ∃ x, x = Fm.num (n : Int) := ⟨_, rfl⟩
    have hLN8 : LN.length ≤ 8 := by rw [hLN]; exact num_len _
    have HLN := Lib.hid hLN
    clear hLN
    go_enter Try.func11, Try.ntmps11
    go_wp2_with fail
    refine (Fi.num_calls n hn _).mono ?_
    rw [← HLN.out]
    rintro e w1 ⟨v1, rfl, ho1, hb1⟩
    obtain ⟨A1, c1, rfl, hl1, hm1, k1, _⟩ := ho1.opens
    have Hk1 := Lib.hid k1
    have Hb1 := Lib.hid hb1
    clear k1 hb1 ho1
    go_wp2_with fail
    go_loopw [7, 8] (fun b i wr => ∃ (k : Nat) (L : List UInt8) (Ab : Option Addr) (cb : Nat), k ≤ ts.length ∧ i = .int .i64 k ∧ b = .slice Ab L.length cb ∧ L = LN ++ lay (ts.take k) ∧ L.length ≤ 8 + k * 1008 ∧ L.length ≤ cb ∧ cb ≤ 9223372036854775807 ∧ ReadB wr wr.heap.size Ab L ∧ Below w.heap.size w wr ∧ ∀ j, j < k → (ts.getD j []).length ≤ 1000) (fun _ i _ => ts.length - (intOf i).toNat)
    case atStart => exact ⟨0, LN, A1, c1, Nat.zero_le _, rfl, rfl, by simp [lay], by omega, hl1, hm1, Hk1.out, Hb1.out, by omega⟩
    case round =>
      obtain ⟨k, L, Ab, cb, hk, rfl, rfl, hL, hL8, hLc, hcb, kL, bL, hall⟩ := hrel
      have HL := Lib.hid hL
      have HkL := Lib.hid kL
      have HbL := Lib.hid bL
      have Hall := Lib.hid hall
      clear hL kL bL hall
      by_cases hkl : k < ts.length
      · obtain ⟨b, o, rfl, hb, hc⟩ := Hr.out.below HbL.out (by omega)
        have hck := hc k hkl
        have Hc := Lib.hid hc
        have hlt := lay_take ts k hkl
        have hmx : (ts.getD k []).length ≤ 9223372036854775807 := Hts.out _ (by simp [List.getD, hkl])
        have Hext := Lib.hid (fun (h : (ts.getD k []).length ≤ 1000) (j : Nat) (hj : j < k + 1) => show (ts.getD j []).length ≤ 1000 from by
          rcases Nat.lt_or_ge j k with h1 | h1
          · exact Hall.out j h1
          · rw [show j = k by omega]; exact h)
        obtain ⟨r, hr⟩ : ∃ r, r = ts.getD k [] := ⟨_, rfl⟩
        rw [← hr] at hck hlt hmx Hext
        have Hlt := Lib.hid hlt
        have Hr2 := Lib.hid hr
        clear hlt hr hc hb
        by_cases hrs : r.length ≤ 1000
        · have hH := Lib.hid (text_le r)
          go_wp2_with fail
          refine (Fi.text_calls r (by omega) _).mono ?_
          rintro e w2 ⟨v2, rfl, ho2, hb2⟩
          obtain ⟨A2, c2, rfl, hl2, hm2, k2, _⟩ := ho2.opens
          have Hk2 := Lib.hid k2
          have Hb2 := Lib.hid hb2
          have HkL2 := Lib.hid ((HkL.out.below hb2).more hb2.size)
          have hT := hH.out
          generalize hTx : Fm.text r = T at *
          have HTx := Lib.hid hTx
          clear k2 hb2 ho2 hTx
          go_wp2_with fail
          refine (more_calls L Ab cb T w2 w2.heap.size rfl HkL2.out hLc hcb A2 c2 Hk2.out hl2 hm2 (by omega)).mono ?_
          rintro e w3 ⟨A3, c3, rfl, hl3, hm3, k3, hb3⟩
          obtain ⟨LT, hLT⟩ : ∃ x, x = L ++ T := ⟨_, rfl⟩
          have hLTl : LT.length = L.length + T.length := by rw [hLT, List.length_append]
          rw [← hLT] at hl3 k3 ⊢
          have HLT := Lib.hid hLT
          have HLTl := Lib.hid hLTl
          clear hLT hLTl
          have HbX := Lib.hid (bthen (bthen HbL.out Hb2.out) hb3)
          clear hb3
          go_wp2
          all_goals
            exact ⟨⟨k + 1, LT, A3, c3, by omega, by go_num, rfl, by rw [HLT.out, HL.out, Hlt.out, List.append_assoc], by have := HLTl.out; omega, hl3, hm3, k3, HbX.out, Hext.out hrs⟩, by simp [intOf]; omega⟩
        · go_wp2_with (go_at_call 25; refine (Hf.out _ HbL.out).mono ?_; rintro e w5 ⟨rfl, hb5⟩)
          go_ret
          exact ⟨rfl, hb5⟩
      · have hke : k = ts.length := by omega
        subst hke
        have hL := HL.out
        rw [List.take_length] at hL
        have HL2 := Lib.hid hL
        clear hL HL hkl
        go_wp2_with fail
        refine (more_calls L Ab cb l _ _ rfl HkL.out hLc hcb Al cl ((Hrl.out.below HbL.out).more HbL.out.size) hll hclm (by omega)).mono ?_
        rintro e w3 ⟨A3, c3, rfl, hl3, hm3, k3, hb3⟩
        have HbX := Lib.hid (bthen HbL.out hb3)
        have Hall2 := Lib.hid Hall.out
        obtain ⟨LL, hLL⟩ : ∃ x, x = L ++ l := ⟨_, rfl⟩
        have hLL2 : LL = Fm.num (n : Int) ++ (lay ts ++ l) := by rw [hLL, HL2.out, HLN.out, List.append_assoc]
        rw [← hLL] at hl3 k3 ⊢
        have HLL := Lib.hid hLL2
        clear hb3 hLL hLL2 HL2
        go_wp2_with fail
        refine (Re.new_calls LL A3 c3 w3 k3 hl3 hm3).mono ?_
        rintro e w4 ⟨rfl, ra, hb4⟩
        have Hb4 := Lib.hid (bthen HbX.out hb4)
        have Hg := Lib.hid HbX.out.size
        generalize hgr : w3.heap.size = gr at *
        clear hb4 k3 hgr HbX
        go_wp2_with fail
        refine (Re.num_calls _ _ _ (n : Int) w4 ra).mono ?_
        rw [HLL.out, nm_all n _ _ (Int.le_refl _) (by omega)]
        rintro e w5 ⟨rfl, ra5, hg5⟩
        have Hb5 := Lib.hid (Hb4.out.trans (below_of_only hg5 Hg.out Hb4.out.size))
        clear hg5 ra
        go_wp2_with fail
        go_loopw [10] (fun i wr => ∃ (k : Nat), k ≤ ts.length ∧ i = .int .i64 k ∧ Re.IsR wr gr gr ⟨lay (ts.drop k) ++ l, 0⟩ ∧ Below w.heap.size w wr) (fun i _ => ts.length - (intOf i).toNat)
        case atStart => exact ⟨0, Nat.zero_le _, rfl, by simpa using ra5, Hb5.out⟩
        case round =>
          obtain ⟨k, hk, rfl, rk, bk⟩ := hrel
          by_cases hkl : k < ts.length
          · obtain ⟨b, o, rfl, hb, hc⟩ := Hr.out (by omega)
            have hck := hc k hkl
            have hkc := bk.cell (p := ⟨b, o + k, none⟩) hb
            have Hr0 := Lib.hid hck
            rw [hck] at hkc
            have hld := lay_drop ts k hkl
            have h1000 := Hall2.out k hkl
            have Hbk := Lib.hid bk
            have Hb := Lib.hid hb
            rw [hld, List.append_assoc] at rk
            obtain ⟨r, hr⟩ : ∃ r, r = ts.getD k [] := ⟨_, rfl⟩
            rw [← hr] at hkc h1000 rk Hr0
            have htx := Lib.hid (tx_all r (lay (ts.drop (k + 1)) ++ l) (r.length : Int) (Int.le_refl _) (by omega))
            clear hld hck hc bk hr
            go_wp2_with fail
            refine CanS.region (fun w' => w'.cell? ⟨b, o + k, none⟩ = some (.string (S r))) [(0, true), (1, true), (2, true), (3, true), (7, true), (8, true), (9, true), (4, true), (5, true), (10, true), (6, false), (11, true)] (by kernel_rfl) (by kernel_rfl) hkc ?_
            have rk : Re.IsR wr.drew gr gr _ := rk
            have Hbk := Lib.hid (Hbk.out.drew)
            generalize wr.drew = W2 at *
            repeat (first | (refine CanS.skip rfl ?_ (fun K hK => ?_); (focus (go_simp; done)); go_simp; refine hK _ ?_; clear hK K) | (refine CanS.pur rfl ?_ ?_; (focus (go_simp; done)); refine ⟨?_, ?_, ?_⟩; rotate_left; (focus (intro w' hS'; (try dsimp only at hS'); go_simp; rfl)); (focus (intro K hK; go_simp; refine hK _ ?_; clear hK K))) | (refine CanS.imp rfl (fun K hK => ?_); go_simp; (first | (go_at_call 36; refine (Re.text_calls _ _ _ (r.length : Int) _ rk).mono ?_; rw [htx.out]; rintro e w6 ⟨rfl, rk6, hg6⟩; have Hbk6 := Lib.hid (Hbk.out.trans (below_of_only hg6 Hg.out Hbk.out.size)); have hkc6 := (Hbk6.out.cell (p := ⟨b, o + k, none⟩) Hb.out).trans Hr0.out; clear hkc)); go_simp; refine hK.out _ _ (hkc6) ?_; clear hK K))
            refine CanS.done ?_
            go_wp2
            all_goals
              refine ⟨⟨k + 1, by omega, by go_num, by assumption, by assumption⟩, by simp [intOf]; omega⟩
          · have hke : k = ts.length := by omega
            subst hke
            rw [lay_end, List.nil_append] at rk
            have hraw : (Rd.mk l 0).raw (l.length : Int) = (⟨[], 0⟩, l) := by
              simp only [Rd.raw, ne_eq, not_true_eq_false, if_false]
              rw [if_neg (by omega), if_neg (by omega)]
              simp
            have hdone : (Rd.mk [] 0).done = 0 := rfl
            have hst := strof_in wr.drew w.heap.size Al cl l (Hrl.out.below bk.drew)
            have Hbk := Lib.hid (bk.drew)
            clear bk
            go_wp2_with fail
            refine CanS.region (fun w' => (convert 25 9 (.slice Al l.length cl)).run Try.prog w' = .ok (.string (S l)) w') [(0, true), (1, false), (2, true), (3, true), (4, true), (6, true), (7, true), (5, false), (8, true), (9, true), (10, true), (11, true), (12, true), (13, true), (15, true), (16, true), (14, false), (17, true), (18, true), (19, true), (20, true), (21, false), (22, true), (23, true), (24, true), (25, false), (26, true), (27, true)] (by kernel_rfl) (by kernel_rfl) hst ?_
            have rk : Re.IsR wr.drew gr gr _ := rk
            generalize wr.drew = W2 at *
            repeat (first | (refine CanS.skip rfl ?_ (fun K hK => ?_); (focus (go_simp; done)); go_simp; refine hK _ ?_; clear hK K) | (refine CanS.pur rfl ?_ ?_; (focus (go_simp; done)); refine ⟨?_, ?_, ?_⟩; rotate_left; (focus (intro w' hS'; (try dsimp only at hS'); go_simp; rfl)); (focus (intro K hK; go_simp; refine hK _ ?_; clear hK K))) | (refine CanS.imp rfl (fun K hK => ?_); go_simp; (first | (go_at_call 42; refine (Re.err_calls _ _ _ _ rk).mono ?_; rintro e w9 ⟨rfl, rfl⟩; have hkS := hst) | (go_at_call 41; refine (Re.left_calls _ _ _ _ rk).mono ?_; rintro e w9 ⟨rfl, rfl⟩; have hkS := hst) | (go_at_call 38; refine (Re.raw_calls _ _ _ (l.length : Int) _ rk).mono ?_; rw [hraw]; rintro e w6 ⟨rfl, rk6, hg6⟩; have Hbk6 := Lib.hid (Hbk.out.trans (below_of_only hg6 Hg.out Hbk.out.size)); have hkS := strof_in w6 w.heap.size Al cl l (Hrl.out.below Hbk6.out); clear hg6 hst) | (go_at_call 43; refine (Re.done_calls _ _ _ _ rk6).mono ?_; rintro e w9 ⟨rfl, rfl⟩) | (go_at_call 25; refine (Hf.out _ Hbk6.out).mono ?_; rintro e w7 ⟨rfl, hb7⟩; have Hb7 := Lib.hid hb7; have hkS := strof_in w7 w.heap.size Al cl l (Hrl.out.below hb7); clear hb7)); go_simp; refine hK.out _ _ (hkS) ?_; clear hK K))
            refine CanS.done ?_
            go_wp2
            go_ret
            exact ⟨rfl, Hb7.out⟩
end Fl
end Go.Proofs.Ytldhplanpnddbaa

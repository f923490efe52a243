/- What operations make, to the program. -/
import Derived.Test.YtiofkhjpknfkgaaK01
import Derived.Test.YtiofkhjpknfkgaaK02
import Derived.Test.YtiofkhjpknfkgaaK03
import Derived.Test.YtiofkhjpknfkgaaK04
import Derived.Test.YtiofkhjpknfkgaaProg
import Derived.WalkKit
import Derived.KernelRfl
import Derived.RowKit3
import Derived.WalkSpells
import Derived.Lib.Hide
import Derived.Laws.Tables
namespace Go.Proofs.Ytiofkhjpknfkgaa
namespace Dm
open Tm
theorem room_take : ∀ (l : List O) (k : Nat) (r : Int), room l r = true → room (l.take k) r = true
  | [], k, r, h => by simpa using h
  | x :: t, 0, r, h => by simp [room]
  | x :: t, k + 1, r, h => by
    obtain ⟨h1, h2⟩ := room_tail h
    rw [List.take_succ_cons]
    unfold room
    rw [if_neg (by omega)]
    exact room_take t k _ h2
theorem made_len (old : List UInt8) : ∀ (l : List O) (r : Int), 0 ≤ r → (∀ x ∈ l, may x old.length = true) → room l r = true → ((made old l).length : Int) ≤ r
  | [], r, h0, h, hr => by simpa [made] using h0
  | x :: t, r, h0, h, hr => by
    obtain ⟨h1, h2⟩ := room_tail hr
    have := made_len old t _ h1 (fun y hy => h y (by simp [hy])) h2
    have hp := piece_len (h x (by simp))
    unfold made at this ⊢
    rw [List.flatMap_cons, List.length_append]
    omega
theorem take_at (l : List O) (k : Nat) (h : k < l.length) : l.take (k + 1) = l.take k ++ [at_ l k] := by
  rw [List.take_succ_eq_append_getElem h]
  simp [at_, List.getD, h]
theorem made_take (old : List UInt8) (l : List O) (k : Nat) (h : k < l.length) : made old (l.take (k + 1)) = made old (l.take k) ++ piece old (at_ l k) := by
  rw [take_at l k h]
  simp [made]
theorem made_le {old : List UInt8} {l : List O} (h : check l old.length = 0) (k : Nat) : (made old (l.take k)).length ≤ 65536 := by
  obtain ⟨h1, h2, h3⟩ := check_ok h
  have := made_len old (l.take k) 65536 (by omega) (fun x hx => h2 x (List.mem_of_mem_take hx)) (room_take l k _ h3)
  omega
theorem apply_ok {old : List UInt8} {l : List O} (h : check l old.length = 0) : apply old l = (made old l, 0) := by unfold apply; rw [if_neg (by simpa using h)]
theorem apply_no {old : List UInt8} {l : List O} (h : check l old.length ≠ 0) : apply old l = ([], check l old.length) := by unfold apply; rw [if_pos h]
end Dm
namespace Dl
open Go.RowKit Ba Tm Dm Os_
set_option linter.unusedVariables false
set_option maxRecDepth 100000 in
set_option maxHeartbeats 4000000 in
theorem apply_calls (O : List UInt8) (Q : Option Addr) (m d : Nat) (hm : m = O.length) (hmd : m ≤ d) (hd : d ≤ 9223372036854775807) (L : List Ow) (A : Option Addr) (n c : Nat) (hn : n = L.length) (hl : n ≤ 9223372036854775807) (w : World) (hO : ReadB w w.heap.size Q O) (h : ReadO w w.heap.size A L) :
    Calls Try.prog 10 #[.slice Q m d, .slice A n c] w fun e w' => ∃ v, e = .returned (.tuple #[v, .int .i64 (apply O (ops L)).2]) ∧ OwnB w' w.heap.size 5 v (apply O (ops L)).1 ∧ Below w.heap.size w w' := by
  have hc := fun w h => check_calls L A n c (m : Int) hn hl (by omega) w h
  have hol : (ops L).length = n := by rw [ops_len, hn]
  by_cases hq : check (ops L) O.length = 0
  · rw [apply_ok hq]
    simp only
    rw [hm, hq] at hc
    have hml := fun k => made_le hq k
    have hmt := fun k => made_take O (ops L) k
    obtain ⟨h4, hmay, -⟩ := check_ok hq
    obtain ⟨i0, hi0⟩ := isByte_of Vi.info5
    have Hi := Lib.hid hi0
    have Hh := Lib.hid h
    have HO := Lib.hid hO
    have Hol := Lib.hid hol
    have Hn := Lib.hid hn
    have Hc := Lib.hid hc
    have Hml := Lib.hid hml
    have Hmt := Lib.hid hmt
    have Hmay := Lib.hid hmay
    have Hm := Lib.hid hm
    rw [← hm] at Hc Hmay
    have hn4 : n ≤ 4096 := by omega
    clear h hol hn hc hml hmt hmay hi0 hO hq hm h4
    go_enter Try.func10, Try.ntmps10
    go_wp2_with fail
    refine (Hc.out _ Hh.out).mono ?_
    rintro e w1 ⟨rfl, hb1⟩
    have HB1 := Lib.hid hb1
    clear hb1
    go_wp2_with fail
    go_loopg [7, 19] n (fun q v7 vi wr => ∃ k : Nat, k ≤ n ∧ q = n - k ∧ vi = .int .i64 (k : Int) ∧ OwnB wr w.heap.size 5 v7 (made O ((ops L).take k)) ∧ Below w.heap.size w wr)
    case atStart => exact ⟨0, by omega, rfl, rfl, by rw [List.take_zero]; exact OwnB.nil, HB1.out⟩
    case round =>
      obtain ⟨k, hk, hq, rfl, ho, hb⟩ := hrel
      have Hq := Lib.hid hq
      have Ho := Lib.hid ho
      have HB := Lib.hid hb
      clear hq ho hb HB1
      by_cases hkn : k < n
      · have hkl : k < L.length := by rw [← Hn.out]; exact hkn
        obtain ⟨b, o, x1, x2, x3, x4, D, e, rfl, hbB, hx, hc, w1, w2, w3, w4, w5⟩ := ReadO.op Hh.out hkl
        have hat := ops_at L k hkl
        rw [hx] at hat
        have HC : Hid (wr.rangeAt b (o + k * 4) [.bool x1, .int .i64 x2, .int .i64 x3, .slice D x4.length e]) := Lib.hid fun jj v hv => (HB.out.cell (p := ⟨b, o + k * 4 + jj, none⟩) hbB).trans (hc jj v hv)
        have hko : k < (ops L).length := by rw [Hol.out]; exact hkn
        have hmy := Hmay.out _ (mem_at (ops L) k hko)
        have hs := Hmt.out k hko
        have hmx := Hml.out (k + 1)
        rw [hs, List.length_append] at hmx
        rw [hat] at hmy hs hmx
        obtain ⟨q, hqq⟩ : ∃ q, q = made O ((ops L).take k) := ⟨_, rfl⟩
        rw [← hqq] at Ho hs hmx
        cases x1 with
        | true =>
          obtain ⟨m1, m2, m3, m4⟩ := may_copy (x := ⟨true, x2, x3, x4⟩) rfl hmy
          simp only at m1 m2 m3 m4
          obtain ⟨p, rfl⟩ : ∃ p : Nat, x2 = (p : Int) := ⟨x2.toNat, by omega⟩
          obtain ⟨z, rfl⟩ : ∃ z : Nat, x3 = (z : Int) := ⟨x3.toNat, by omega⟩
          have hpc : piece O ⟨true, (p : Int), (z : Int), x4⟩ = (O.drop p).take z := by simp [piece]
          rw [hpc] at hs hmx
          obtain ⟨b2, o2, hQ, -, -⟩ := HO.out (by rw [← Hm.out]; omega)
          subst hQ
          have hpl : ((O.drop p).take z).length = z := by rw [List.length_take, List.length_drop, ← Hm.out]; omega
          have HR : Hid (ReadB wr w.heap.size (some ⟨b2, o2 + p, none⟩) ((O.drop p).take z)) := Lib.hid ((HO.out.below HB.out).drop p |>.take z)
          obtain ⟨P, hP⟩ : ∃ P, P = (O.drop p).take z := ⟨_, rfl⟩
          rw [← hP] at hs hmx hpl HR
          have Hs := Lib.hid hs
          have Hpl := Lib.hid hpl
          have Hql := Lib.hid hmx
          have i4 : (p : Int) + (z : Int) ≤ 9223372036854775807 := by omega
          have hsl := fun w' => sl_lh (P := Try.prog) 22 5 i0 Try.underlying22 Hi.out b2 o2 m d (p : Int) ((p : Int) + (z : Int)) p z rfl rfl (by omega) (by omega) w'
          clear hx hc w5 hat hs hmx hpl hP hqq hmy m1 m2 m3 m4 hpc hko
          go_wp2_with (first | (refine wpList_load_mid rfl 54 (.tmp 21) rfl b (o + k * 4) rfl [.bool true, .int .i64 (p : Int), .int .i64 (z : Int), .slice D x4.length e] _ HC.out Try.underlying54 rfl (by kernel_rfl) ?_) | (at_builtin; go_loud (refine wpList_appB _ rfl (.tmp 25) (.tmp 34) 22 rfl w.heap.size 5 i0 Try.underlying22 Hi.out _ _ rfl (Ho.out.alloc _) w.heap.size (some ⟨b2, o2 + p, none⟩) z (d - p) P rfl Hpl.out.symm (HR.out.alloc HB.out.size _) (by have := Hql.out; omega) (by have := HB.out.size; simp; omega) ?_); intro v5 w5 ho5 hg5 _ hb5))
          have Ho5 := Lib.hid ho5
          have HB5 := Lib.hid ((HB.out.alloc HB.out.size _).trans hb5)
          clear ho5 hg5 hb5
          go_wp2_with fail
          go_roundg (n - (k + 1))
          case rel => exact ⟨k + 1, by omega, rfl, rfl, by rw [Hs.out]; exact Ho5.out, HB5.out⟩
          case measure => have := Hq.out; omega
        | false =>
          have hpc : piece O ⟨false, x2, x3, x4⟩ = x4 := by simp [piece]
          rw [hpc] at hs hmx
          have Hs := Lib.hid hs
          have Hql := Lib.hid hmx
          have HR : Hid (ReadB wr w.heap.size D x4) := Lib.hid (w5.below HB.out)
          clear hx hc w5 hat hs hmx hqq hmy hpc hko
          go_wp2_with (first | (refine wpList_load_mid rfl 54 (.tmp 21) rfl b (o + k * 4) rfl [.bool false, .int .i64 x2, .int .i64 x3, .slice D x4.length e] _ HC.out Try.underlying54 rfl (by kernel_rfl) ?_) | (at_builtin; go_loud (refine wpList_appB _ rfl (.tmp 36) (.tmp 38) 22 rfl w.heap.size 5 i0 Try.underlying22 Hi.out _ _ rfl (Ho.out.alloc _) w.heap.size D x4.length e x4 rfl rfl (HR.out.alloc HB.out.size _) (by have := Hql.out; omega) (by have := HB.out.size; simp; omega) ?_); intro v5 w5 ho5 hg5 _ hb5))
          have Ho5 := Lib.hid ho5
          have HB5 := Lib.hid ((HB.out.alloc HB.out.size _).trans hb5)
          clear ho5 hg5 hb5
          go_wp2_with fail
          go_roundg (n - (k + 1))
          case rel => exact ⟨k + 1, by omega, rfl, rfl, by rw [Hs.out]; exact Ho5.out, HB5.out⟩
          case measure => have := Hq.out; omega
      · have hke : k = n := by omega
        go_wp2_with fail
        go_ret2
        refine ⟨_, rfl, ?_, HB.out⟩
        have ho := Ho.out
        rw [List.take_of_length_le (by rw [Hol.out]; omega)] at ho
        exact ho
  · rw [apply_no hq]
    simp only
    rw [hm] at hc
    have Hc := Lib.hid hc
    have Hq := Lib.hid hq
    rw [← hm] at Hc Hq
    have Hh := Lib.hid h
    clear hc hq
    rw [← hm]
    generalize check (ops L) (m : Int) = q at *
    clear hm hn hol h hO hl
    go_enter Try.func10, Try.ntmps10
    go_wp2_with fail
    refine (Hc.out _ Hh.out).mono ?_
    rintro e w1 ⟨rfl, hb1⟩
    have HB1 := Lib.hid hb1
    have t1 : (q == 0) = false := by simpa using Hq.out
    clear hb1
    go_wp2_with fail
    go_ret2
    exact ⟨_, rfl, OwnB.nil, HB1.out⟩
end Dl
end Go.Proofs.Ytiofkhjpknfkgaa
/- A region that draws its order, where all that it reads lies in blocks that were there at its start: F is 'Below' of the world at its start. -/
namespace Go.Proofs.Ytiofkhjpknfkgaa
namespace CanB
open CanT Go.RowKit Ba Sm
set_option linter.unusedVariables false
section
variable {P : Program} {ops : Array Oper} {Q : Exit → Act → World → Prop} {k : Nat}
theorem region {id : Nat} {l : List Oper} {a : Act} {w : World} (k : Nat) (ord : Ord) (hm : P.follows .mixedOrders = true)
    (hB : (Region.noSelect l.toArray && okLen ord l.length && canB l.toArray k ord false (Array.replicate l.length false)) = true)
    (h : wpCan P l.toArray (NoPanic Q) k ord (Below w.drew.heap.size w.drew) a w.drew) : (Code.region id l.toArray true).wp P Q a w :=
  CanT.region (Below w.drew.heap.size w.drew) k ord hm hB (Below.refl _ _) h
variable {i : Nat} {o : Oper} {a : Act} {w W : World} {b : Nat} {rest : Ord} {B : Nat}
/-- a row of values is read -/
theorem row (hi : ops[i]? = some o) (hg : Region.wanted o (yielded ops a.tmps) = true)
    (ty : TypeId) (x : Operand) (ho : o.op = .load ty x) (g p : Nat) (cs : List Value) (hx : a.eval x = .pointer (some ⟨g, p, none⟩)) (hR : W.rangeAt g p cs) (hgB : g < B) (d : TypeDesc) (hu : P.underlying ty = some d) (hd : d.isRow = true)
    (hs : (P.info? ty).map (·.size) = some cs.length) (h : ∀ K : Act → Prop, (∀ a, wpCan P ops Q k rest (Below B W) a w → K a) → K (a.put o.dst (.agg cs.toArray))) : wpCan P ops Q k (.op i 1 rest) (Below B W) a w :=
  CanT.heldR hi hg ty x ho g p cs hx (fun w' hF j v hv => (Below.cell (p := ⟨g, p + j, none⟩) hF hgB).trans (hR j v hv)) d hu hd hs h
/-- bytes are read as a text -/
theorem str (hi : ops[i]? = some o) (hg : Region.wanted o (yielded ops a.tmps) = true)
    (src dst e : TypeId) (x : Operand) (ho : o.op = .convert src dst x) (hs : P.underlying src = some (.slice e)) (he : P.underlying e = some (.int .u8)) (hd : P.underlying dst = some .string) (A : Option Addr) (n c : Nat) (l : List UInt8)
    (hx : a.eval x = .slice A n c) (hn : n = l.length) (hR : ReadB W B A l) (h : ∀ K : Act → Prop, (∀ a, wpCan P ops Q k rest (Below B W) a w → K a) → K (a.put o.dst (.string (S l)))) : wpCan P ops Q k (.op i 1 rest) (Below B W) a w := by
  subst hn
  refine CanT.held hi hg ⟨.string (S l), fun w' hF' => ?_, h⟩
  unfold execOp
  simp only [ho, hx, Sem.run_bind, run_strof w' src e hs he A c B l (hR.below hF') dst hd]
  rfl
/-- one cell is read -/
theorem cell (hi : ops[i]? = some o) (hg : Region.wanted o (yielded ops a.tmps) = true) (u v : Value) (p : Addr) (hc : W.cell? p = some u) (hp : p.block < B)
    (hl : ∀ w', w'.cell? p = some u → (execOp a.eval o).run P w' = .ok (.value v) w')
    (h : ∀ K : Act → Prop, (∀ a, wpCan P ops Q k rest (Below B W) a w → K a) → K (a.put o.dst v)) : wpCan P ops Q k (.op i 1 rest) (Below B W) a w :=
  CanT.held hi hg ⟨v, fun w' hF => hl w' ((Below.cell hF hp).trans hc), h⟩
end
end CanB
end Go.Proofs.Ytiofkhjpknfkgaa
/- A region that draws its order: what holds of every world in between (F) says that the old blocks are as they were. -/
namespace Go.Proofs.Ytiofkhjpknfkgaa
namespace CanF
open CanT Go.RowKit Ba Sm
set_option linter.unusedVariables false
section
variable {P : Program} {ops : Array Oper} {Q : Exit → Act → World → Prop} {k : Nat} {F : World → Prop}
theorem region {id : Nat} {l : List Oper} {a : Act} {w : World} (k : Nat) (ord : Ord) (hm : P.follows .mixedOrders = true)
    (hB : (Region.noSelect l.toArray && okLen ord l.length && canB l.toArray k ord false (Array.replicate l.length false)) = true)
    (h : wpCan P l.toArray (NoPanic Q) k ord (fun w' => w.drew.grownBy w' none) a w.drew) : (Code.region id l.toArray true).wp P Q a w :=
  CanT.region (fun w' => w.drew.grownBy w' none) k ord hm hB (World.grownBy.refl _ _) h
variable {i : Nat} {o : Oper} {a : Act} {w W : World} {b : Nat} {rest : Ord} {B : Nat}
theorem row (hi : ops[i]? = some o) (hg : Region.wanted o (yielded ops a.tmps) = true)
    (ty : TypeId) (x : Operand) (ho : o.op = .load ty x) (g p : Nat) (cs : List Value) (hx : a.eval x = .pointer (some ⟨g, p, none⟩)) (hF : ∀ w', F w' → Below B W w') (hR : W.rangeAt g p cs) (hgB : g < B) (d : TypeDesc) (hu : P.underlying ty = some d) (hd : d.isRow = true)
    (hs : (P.info? ty).map (·.size) = some cs.length) (h : ∀ K : Act → Prop, (∀ a, wpCan P ops Q k rest F a w → K a) → K (a.put o.dst (.agg cs.toArray))) : wpCan P ops Q k (.op i 1 rest) F a w :=
  CanT.heldR hi hg ty x ho g p cs hx (fun w' h j v hv => (Below.cell (p := ⟨g, p + j, none⟩) (hF w' h) hgB).trans (hR j v hv)) d hu hd hs h
theorem strF (hi : ops[i]? = some o) (hg : Region.wanted o (yielded ops a.tmps) = true)
    (src dst e : TypeId) (x : Operand) (ho : o.op = .convert src dst x) (hs : P.underlying src = some (.slice e)) (he : P.underlying e = some (.int .u8)) (hd : P.underlying dst = some .string) (A : Option Addr) (n c : Nat) (l : List UInt8)
    (hx : a.eval x = .slice A n c) (hn : n = l.length) (hF : ∀ w', F w' → ∃ B, ReadB w' B A l) (h : ∀ K : Act → Prop, (∀ a, wpCan P ops Q k rest F a w → K a) → K (a.put o.dst (.string (S l)))) : wpCan P ops Q k (.op i 1 rest) F a w := by
  subst hn
  refine CanT.held hi hg ⟨.string (S l), fun w' hF' => ?_, h⟩
  obtain ⟨B, hR⟩ := hF w' hF'
  unfold execOp
  simp only [ho, hx, Sem.run_bind, run_strof w' src e hs he A c B l hR dst hd]
  rfl
theorem str (hi : ops[i]? = some o) (hg : Region.wanted o (yielded ops a.tmps) = true)
    (src dst e : TypeId) (x : Operand) (ho : o.op = .convert src dst x) (hs : P.underlying src = some (.slice e)) (he : P.underlying e = some (.int .u8)) (hd : P.underlying dst = some .string) (A : Option Addr) (n c : Nat) (l : List UInt8)
    (hx : a.eval x = .slice A n c) (hn : n = l.length) (hF : ∀ w', F w' → Below B W w') (hR : ReadB W B A l) (h : ∀ K : Act → Prop, (∀ a, wpCan P ops Q k rest F a w → K a) → K (a.put o.dst (.string (S l)))) : wpCan P ops Q k (.op i 1 rest) F a w :=
  strF hi hg src dst e x ho hs he hd A n c l hx hn (fun w' h => ⟨B, hR.below (hF w' h)⟩) h
theorem cell (hi : ops[i]? = some o) (hg : Region.wanted o (yielded ops a.tmps) = true) (u v : Value) (p : Addr) (hF : ∀ w', F w' → Below B W w') (hc : W.cell? p = some u) (hp : p.block < B)
    (hl : ∀ w', w'.cell? p = some u → (execOp a.eval o).run P w' = .ok (.value v) w')
    (h : ∀ K : Act → Prop, (∀ a, wpCan P ops Q k rest F a w → K a) → K (a.put o.dst v)) : wpCan P ops Q k (.op i 1 rest) F a w :=
  CanT.held hi hg ⟨v, fun w' h => hl w' ((Below.cell (hF w' h) hp).trans hc), h⟩
end
theorem step_appBg {P : Program} (w : World) {ops : Array Oper} {o : Oper} {a : Act} {K : Act → World → Prop} {Q : Exit → Act → World → Prop} {R : Prop} (hgd : Region.wanted o (yielded ops a.tmps) = true) (s x : Operand) (t : TypeId)
    (ho : o.op = .call { callee := .builtin .append, args := #[s, x], argTypes := #[t, t] })
    (base : Nat) (E : TypeId) (i : TypeInfo) (ht : P.underlying t = some (.slice E)) (hi : IsByte P E i)
    (v : Value) (l : List UInt8) (hs : a.eval s = v) (hown : OwnB w base E v l)
    (B : Nat) (A : Option Addr) (m c : Nat) (r : List UInt8) (hx : a.eval x = .slice A m c) (hm : m = r.length) (hr : ReadB w B A r)
    (hbytes : l.length + r.length ≤ 140737488355328) (hbase : base ≤ w.heap.size)
    (h : ∀ v' w', OwnB w' base E v' (l ++ r) → w.grownBy w' v.ownBlock → (v'.ownBlock = v.ownBlock ∨ v'.ownBlock = some w.heap.size) → Below base w w' → K (a.put o.dst v') w') :
    if Region.wanted o (yielded ops a.tmps) = true then Oper.wp P o a w K Q else R := by
  subst hm
  rw [if_pos hgd]
  refine wp_append_any w s x t ho base E i (.int .u8 0) 1 1 ht hi.1 hi.2.1 hi.2.2.1 hi.2.2.2 rfl (by omega) v l.length (bvs l) hs hown B A r.length c (bvs r) hx hr.reads (bvs_one r) (by unfold maxLen; omega) (by omega) hbase ?_
  intro v' w' h1 h2 h3
  refine h v' w' ?_ h2 h3 ((Below.refl base w).grown h2 hbase (fun k hk => (World.ownsRow.lt hown k hk).1))
  unfold OwnB
  rw [List.length_append, bvs_append]
  exact h1
/-- a new block: what grows from there on, but for that block, leaves all that was there -/
theorem grown_new {w : World} {o : Obj} {w' : World} {g : Nat} (hg : g = w.heap.size) (h : (w.alloc o).grownBy w' (some g)) : w.grownBy w' none := by
  subst hg
  have hb : Below w.heap.size w w' := ((Below.refl _ _).alloc (Nat.le_refl _) o).trans (below_of_only h (Nat.le_refl _) (by simp))
  exact only_of_below hb none
theorem grown_read {w w' : World} {base g : Nat} {E : TypeId} {l : List UInt8} {A : Option Addr} {c : Nat} (ho : OwnB w base E (.slice A l.length c) l) (hg : w.grownBy w' (some g)) (hne : g < base) : ∃ B, ReadB w' B A l := by
  refine ⟨_, ReadB.of_own (ho.grown hg ?_)⟩
  right
  intro e
  have := ho.ge g e
  omega
theorem none_read {w w' : World} {A : Option Addr} {l : List UInt8} (hr : ReadB w w.heap.size A l) (hg : w.grownBy w' none) : ∃ B, ReadB w' B A l :=
  ⟨_, hr.keep fun p hp => World.cell?_of_block (hg.block p.block hp (by simp))⟩
end CanF
end Go.Proofs.Ytiofkhjpknfkgaa
/- Operations as bytes, to the program. -/
namespace Go.Proofs.Ytiofkhjpknfkgaa
namespace Dm
open Tm
theorem put_take (l : List O) (k : Nat) (h : k < l.length) : put (l.take (k + 1)) = put (l.take k) ++ putx (at_ l k) := by
  rw [take_at l k h]
  simp [put]
theorem putx_len (x : O) (h : x.data.length ≤ 65536) : (putx x).length ≤ 65560 := by
  unfold putx
  split
  · have h1 := Fm.num_len x.pos
    have h2 := Fm.num_len x.n
    simp only [List.length_cons, List.length_append]
    omega
  · have h1 := Fm.num_len (x.data.length : Int)
    simp only [List.length_cons, List.length_append, Fm.text]
    omega
theorem put_len : ∀ (l : List O), (∀ x ∈ l, x.data.length ≤ 65536) → (put l).length ≤ 65560 * l.length
  | [], h => by simp [put]
  | x :: t, h => by
    have h1 := put_len t (fun y hy => h y (by simp [hy]))
    have h2 := putx_len x (h x (by simp))
    unfold put at h1 ⊢
    rw [List.flatMap_cons, List.length_append, List.length_cons]
    omega
end Dm
namespace Dl
open Go.RowKit Ba Tm Dm Os_
set_option linter.unusedVariables false
theorem strof_dl (W : World) (B : Nat) (A : Option Addr) (c : Nat) (l : List UInt8) (h : ReadB W B A l) : (convert 22 9 (.slice A l.length c)).run Try.prog W = .ok (.string (S l)) W :=
  run_strof W 22 5 Try.underlying22 Try.underlying5 A c B l h 9 Try.underlying9
set_option maxRecDepth 100000 in
set_option maxHeartbeats 8000000 in
theorem put_calls (L : List Ow) (A : Option Addr) (n c : Nat) (hn : n = L.length) (h4 : n ≤ 4096) (hd : ∀ x ∈ ops L, x.data.length ≤ 65536) (w : World) (h : ReadO w w.heap.size A L) :
    Calls Try.prog 21 #[.slice A n c] w fun e w' => ∃ v, e = .returned v ∧ OwnB w' w.heap.size 5 v (put (ops L)) ∧ Below w.heap.size w w' := by
  have hol : (ops L).length = n := by rw [ops_len, hn]
  have hpt := fun k hk => put_take (ops L) k hk
  have hpl := fun k => put_len ((ops L).take k) (fun x hx => hd x (List.mem_of_mem_take hx))
  have hds := fun k hk => hd (at_ (ops L) k) (mem_at (ops L) k hk)
  obtain ⟨i0, hi0⟩ := isByte_of Vi.info5
  have Hi := Lib.hid hi0
  have Hh := Lib.hid h
  have Hol := Lib.hid hol
  have Hn := Lib.hid hn
  have Hpt := Lib.hid hpt
  have Hpl := Lib.hid hpl
  have Hds := Lib.hid hds
  clear hi0 h hol hn hpt hpl hds hd
  go_enter Try.func21, Try.ntmps21
  go_wp2_with fail
  go_loopg [3, 8] n (fun q v3 vi wr => ∃ k : Nat, k ≤ n ∧ q = n - k ∧ vi = .int .i64 (k : Int) ∧ OwnB wr w.heap.size 5 v3 (put ((ops L).take k)) ∧ Below w.heap.size w wr)
  case atStart => exact ⟨0, by omega, rfl, rfl, by rw [List.take_zero]; exact OwnB.nil, Below.refl _ _⟩
  case round =>
    obtain ⟨k, hk, hq, rfl, ho, hb⟩ := hrel
    have Hq := Lib.hid hq
    have Ho := Lib.hid ho
    have HB := Lib.hid hb
    clear hq ho hb
    by_cases hkn : k < n
    · have hkl : k < L.length := by rw [← Hn.out]; exact hkn
      obtain ⟨b, o, x1, x2, x3, x4, D, e, rfl, hbB, hx, hc, w1, w2, w3, w4, w5⟩ := ReadO.op Hh.out hkl
      have hat := ops_at L k hkl
      rw [hx] at hat
      have HC : Hid (wr.rangeAt b (o + k * 4) [.bool x1, .int .i64 x2, .int .i64 x3, .slice D x4.length e]) := Lib.hid fun jj v hv => (HB.out.cell (p := ⟨b, o + k * 4 + jj, none⟩) hbB).trans (hc jj v hv)
      have hko : k < (ops L).length := by rw [Hol.out]; exact hkn
      have hs := Hpt.out k hko
      have hql := Hpl.out k
      have hdl := Hds.out k hko
      rw [List.length_take, Hol.out] at hql
      rw [hat] at hs hdl
      simp only at hdl
      obtain ⟨q, hqq⟩ : ∃ q, q = put ((ops L).take k) := ⟨_, rfl⟩
      rw [← hqq] at Ho hs hql
      have hq4 : q.length ≤ 65560 * 4096 := by omega
      have Hx4 : Hid (x4.length ≤ 65536) := Lib.hid hdl
      have Hq4 := Lib.hid hq4
      cases x1 with
      | true =>
        obtain ⟨P1, hP1⟩ : ∃ P1, P1 = Fm.num x2 := ⟨_, rfl⟩
        obtain ⟨P2, hP2⟩ : ∃ P2, P2 = Fm.num x3 := ⟨_, rfl⟩
        have hs2 : put ((ops L).take (k + 1)) = q ++ ([1] ++ P1 ++ P2) := by rw [hs, hP1, hP2]; simp [putx]
        have hn1 := fun w => Fi.num_calls x2 w1.2 w
        have hn2 := fun w => Fi.num_calls x3 w2.2 w
        have hl1 := Fm.num_len x2
        have hl2 := Fm.num_len x3
        rw [← hP1] at hn1 hl1
        rw [← hP2] at hn2 hl2
        have Hs := Lib.hid hs2
        have H1 := Lib.hid hn1
        have H2 := Lib.hid hn2
        have Hl1 := Lib.hid hl1
        have Hl2 := Lib.hid hl2
        clear hx hc w5 hat hs hs2 hn1 hn2 hP1 hP2 hl1 hl2 hql hdl hqq hq4 hko
        go_wp2_with (refine wpList_load_mid rfl 54 (.tmp 10) rfl b (o + k * 4) rfl [.bool true, .int .i64 x2, .int .i64 x3, .slice D x4.length e] _ HC.out Try.underlying54 rfl (by kernel_rfl) ?_)
        have hc1 : (wr.alloc (.cells #[.bool true, .int .i64 x2, .int .i64 x3, .slice D x4.length e] 54)).drew.cell? ⟨wr.heap.size, 1, none⟩ = some (.int .i64 x2) := by rw [show (wr.alloc (.cells #[.bool true, .int .i64 x2, .int .i64 x3, .slice D x4.length e] 54)).drew.cell? ⟨wr.heap.size, 1, none⟩ = (wr.alloc (.cells #[.bool true, .int .i64 x2, .int .i64 x3, .slice D x4.length e] 54)).cell? ⟨wr.heap.size, 1, none⟩ from rfl, cell_of_row _ wr.heap.size 1 _ _ (0, 0) (heap_alloc_new wr _)]; rfl
        have hc2 : (wr.alloc (.cells #[.bool true, .int .i64 x2, .int .i64 x3, .slice D x4.length e] 54)).drew.cell? ⟨wr.heap.size, 2, none⟩ = some (.int .i64 x3) := by rw [show (wr.alloc (.cells #[.bool true, .int .i64 x2, .int .i64 x3, .slice D x4.length e] 54)).drew.cell? ⟨wr.heap.size, 2, none⟩ = (wr.alloc (.cells #[.bool true, .int .i64 x2, .int .i64 x3, .slice D x4.length e] 54)).cell? ⟨wr.heap.size, 2, none⟩ from rfl, cell_of_row _ wr.heap.size 2 _ _ (0, 0) (heap_alloc_new wr _)]; rfl
        refine CanT.region (fun w' => w'.cell? ⟨wr.heap.size, 1, none⟩ = some (.int .i64 x2) ∧ w'.cell? ⟨wr.heap.size, 2, none⟩ = some (.int .i64 x3)) 1000 (.op 0 2 (.op 2 2 (.op 3 1 (.op 5 2 (.op 6 1 (.fork (.op 1 0 (.op 4 0 (.op 7 0 (.op 8 0 (.op 9 0 (.op 10 0 (.op 11 2 (.nil)))))))) (.op 4 0 (.fork (.op 1 0 (.op 7 0 (.op 8 0 (.op 9 0 (.op 10 0 (.op 11 2 (.nil))))))) (.op 7 0 (.op 1 0 (.op 8 0 (.op 9 0 (.op 10 0 (.op 11 2 (.nil))))))))))))))) (by kernel_rfl) (by kernel_rfl) ⟨hc1, hc2⟩ ?_
        have hlt : wr.heap.size < (wr.alloc (.cells #[.bool true, .int .i64 x2, .int .i64 x3, .slice D x4.length e] 54)).drew.heap.size := by simp
        have hBs := (HB.out.alloc HB.out.size (.cells #[.bool true, .int .i64 x2, .int .i64 x3, .slice D x4.length e] 54)).drew
        have hOs := (Ho.out.alloc (.cells #[.bool true, .int .i64 x2, .int .i64 x3, .slice D x4.length e] 54)).drew
        have hne : ∀ g, u3.ownBlock = some g → g ≠ wr.heap.size := fun g hg e => by have := (World.ownsRow.lt Ho.out g hg).2; omega
        have Hne := Lib.hid hne
        clear hne
        generalize (wr.alloc (.cells #[.bool true, .int .i64 x2, .int .i64 x3, .slice D x4.length e] 54)).drew = ws at *
        have hF : ∀ W : World, Below ws.heap.size ws W → W.cell? ⟨wr.heap.size, 1, none⟩ = some (.int .i64 x2) ∧ W.cell? ⟨wr.heap.size, 2, none⟩ = some (.int .i64 x3) := fun W h => ⟨(h.cell (p := ⟨wr.heap.size, 1, none⟩) hlt).trans hc1, (h.cell (p := ⟨wr.heap.size, 2, none⟩) hlt).trans hc2⟩
        have HF := Lib.hid hF
        clear hF
        have HBs := Lib.hid hBs
        have HOs := Lib.hid hOs
        have HC1 := Lib.hid hc1
        have HC2 := Lib.hid hc2
        have Hlt := Lib.hid hlt
        have hl1 := Hl1.out
        have hl2 := Hl2.out
        have hW : Below ws.heap.size ws ws := Below.refl _ _
        clear hBs hOs hc1 hc2 hlt HC Ho HB
        repeat (first | (refine CanT.skip rfl ?_ (fun K hK => ?_); (focus (go_simp; done)); go_simp; refine hK _ ?_; clear hK K) | (refine CanT.pur rfl ?_ ?_; (focus (go_simp; done)); refine ⟨?_, ?_, ?_⟩; rotate_left; (focus (intro w'; go_simp; rfl)); (focus (intro K hK; go_simp; refine hK _ ?_; clear hK K))) | (refine CanT.cellG rfl ?_ (.int .i64 x2) (.int .i64 x2) ⟨wr.heap.size, 1, none⟩ (fun w1 h => h.1) ?_ (fun K hK => ?_); (focus (go_simp; done)); (focus (intro w' hc'; go_simp; (try rfl))); go_simp; refine hK _ ?_; clear hK K) | (refine CanT.cellG rfl ?_ (.int .i64 x3) (.int .i64 x3) ⟨wr.heap.size, 2, none⟩ (fun w1 h => h.2) ?_ (fun K hK => ?_); (focus (go_simp; done)); (focus (intro w' hc'; go_simp; (try rfl))); go_simp; refine hK _ ?_; clear hK K))
        refine CanT.both ?_ ?_
        · refine CanT.imp rfl (fun K hK => ?_)
          go_simp
          obtain ⟨wl, hwl⟩ : ∃ wl, wl = ws.alloc (.cells #[.int .u8 1] 5) := ⟨_, rfl⟩
          have hR0 : ReadB wl wl.heap.size (some ⟨ws.heap.size, 0, none⟩) [1] := by rw [hwl]; simpa using ReadB.lit1 ws 5 1 1 rfl
          have hbl : Below ws.heap.size ws wl := by rw [hwl]; exact (Below.refl _ _).alloc (Nat.le_refl _) _
          rw [← hwl]
          obtain ⟨g0, hg0⟩ : ∃ g0, g0 = ws.heap.size := ⟨_, rfl⟩
          rw [← hg0] at hR0 ⊢
          have hW := hW.trans (hbl.mono hW.size)
          refine hK.out _ _ (HF.out _ hW) ?_
          clear hK K hwl hg0 hbl
          refine CanT.imp rfl (fun K hK => ?_)
          go_simp
          refine Calls.mono (H1.out _) ?_
          rintro e1 wn1 ⟨v1, rfl, ho1, hb1⟩
          obtain ⟨A1, c1, rfl, hp1, hm1, hR1, -⟩ := ho1.opens
          have hR0 := (hR0.below hb1).more hb1.size
          have hW := hW.trans (hb1.mono hW.size)
          (try go_simp)
          refine hK.out _ _ (HF.out _ hW) ?_
          clear hK K ho1 hb1
          refine CanT.imp rfl (fun K hK => ?_)
          go_simp
          refine Calls.mono (H2.out _) ?_
          rintro e2 wn2 ⟨v2, rfl, ho2, hb2⟩
          obtain ⟨A2, c2, rfl, hp2, hm2, hR2, -⟩ := ho2.opens
          have hR0 := (hR0.below hb2).more hb2.size
          have hR1 := (hR1.below hb2).more hb2.size
          have hW := hW.trans (hb2.mono hW.size)
          (try go_simp)
          refine hK.out _ _ (HF.out _ hW) ?_
          clear hK K ho2 hb2
          have hbb : ReadBB (wn2.alloc (.cells #[.slice (some ⟨g0, 0, none⟩) 1 1, .slice A1 P1.length c1, .slice A2 P2.length c2] 22)) (wn2.alloc (.cells #[.slice (some ⟨g0, 0, none⟩) 1 1, .slice A1 P1.length c1, .slice A2 P2.length c2] 22)).heap.size (some ⟨wn2.heap.size, 0, none⟩) [[1], P1, P2] :=
            (ReadBB.lit3 wn2 22 (some ⟨g0, 0, none⟩) A1 A2 1 1 P1.length c1 P2.length c2 [1] P1 P2 wn2.heap.size wn2.heap.size rfl (Nat.le_refl _) rfl rfl rfl hR0 hR1 hR2 (by simp) hp1 hp2 (by simp) hm1 hm2).more (by simp)
          have hjn := Fi.join_calls [[1], P1, P2] (some ⟨wn2.heap.size, 0, none⟩) 3 _ hbb (by simp) (by simp [Fi.sumLen]; omega)
          have Hjn := Lib.hid hjn
          clear hbb hjn hR0 hR1 hR2
          refine CanT.imp rfl (fun K hK => ?_)
          go_simp
          have hW2 := hW.alloc hW.size (.cells #[.slice (some ⟨g0, 0, none⟩) 1 1, .slice A1 P1.length c1, .slice A2 P2.length c2] 22)
          refine hK.out _ _ (HF.out _ hW2) ?_
          clear hK K
          refine CanT.imp rfl (fun K hK => ?_)
          go_simp
          refine Calls.mono Hjn.out ?_
          rintro e5 w5' ⟨v5, rfl, ho5, hb5⟩
          obtain ⟨A5, c5, rfl, hp5, hm5, hR5, -⟩ := ho5.opens
          have hW5 := hW2.trans (hb5.mono hW2.size)
          (try go_simp)
          refine hK.out _ _ (HF.out _ hW5) ?_
          clear hK K hW2 hb5 ho5
          have hfl : [[1], P1, P2].flatten = [1] ++ P1 ++ P2 := by simp
          rw [hfl] at hR5 hp5
          have hl5 : ([1] ++ P1 ++ P2).length ≤ 17 := by simp only [List.length_append, List.length_cons, List.length_nil]; omega
          have hoq := HOs.out.keptB hW5
          refine CanT.imp rfl (fun K hK => ?_)
          refine CanF.step_appBg _ ?_ (.tmp 14) (.tmp 23) 22 rfl w.heap.size 5 i0 Try.underlying22 Hi.out _ _ rfl hoq w5'.heap.size A5 _ c5 ([1] ++ P1 ++ P2) rfl (by simp only [List.length_append, List.length_cons, List.length_nil]; omega) hR5 (by have := Hq4.out; omega) (by have := hW5.size; have := HBs.out.size; omega) ?_
          focus (go_simp; done)
          intro v6 w6 ho6 hg6 _ hb6
          have HO6 := Lib.hid ho6
          have HB6 := Lib.hid (HBs.out.trans (((hW5.mono HBs.out.size)).trans hb6))
          have hf5 := HF.out _ hW5
          have hsz5 : wr.heap.size < w5'.heap.size := by have := hW5.size; have := Hlt.out; omega
          have hf6 : w6.cell? ⟨wr.heap.size, 1, none⟩ = some (.int .i64 x2) ∧ w6.cell? ⟨wr.heap.size, 2, none⟩ = some (.int .i64 x3) := ⟨(World.cell?_of_block (hg6.block wr.heap.size hsz5 (fun e => Hne.out _ e.symm rfl))).trans hf5.1, (World.cell?_of_block (hg6.block wr.heap.size hsz5 (fun e => Hne.out _ e.symm rfl))).trans hf5.2⟩
          (try go_simp)
          refine hK.out _ _ hf6 ?_
          clear hK K hf5 hsz5 hf6 hW5 hR5 ho6 hg6 hb6 hoq hW
          repeat (first | (refine CanT.skip rfl ?_ (fun K hK => ?_); (focus (go_simp; done)); go_simp; refine hK _ ?_; clear hK K) | (refine CanT.pur rfl ?_ ?_; (focus (go_simp; done)); refine ⟨?_, ?_, ?_⟩; rotate_left; (focus (intro w'; go_simp; rfl)); (focus (intro K hK; go_simp; refine hK _ ?_; clear hK K))))
          refine CanT.done ?_
          go_wp2_with fail
          go_roundg (n - (k + 1))
          case rel => exact ⟨k + 1, by omega, rfl, rfl, by rw [Hs.out]; exact HO6.out, HB6.out⟩
          case measure => have := Hq.out; omega
        · refine CanT.imp rfl (fun K hK => ?_)
          go_simp
          refine Calls.mono (H1.out _) ?_
          rintro e1 wn1 ⟨v1, rfl, ho1, hb1⟩
          obtain ⟨A1, c1, rfl, hp1, hm1, hR1, -⟩ := ho1.opens
          have hW := hW.trans (hb1.mono hW.size)
          (try go_simp)
          refine hK.out _ _ (HF.out _ hW) ?_
          clear hK K ho1 hb1
          refine CanT.both ?_ ?_
          · refine CanT.imp rfl (fun K hK => ?_)
            go_simp
            obtain ⟨wl, hwl⟩ : ∃ wl, wl = wn1.alloc (.cells #[.int .u8 1] 5) := ⟨_, rfl⟩
            have hR0 : ReadB wl wl.heap.size (some ⟨wn1.heap.size, 0, none⟩) [1] := by rw [hwl]; simpa using ReadB.lit1 wn1 5 1 1 rfl
            have hbl : Below wn1.heap.size wn1 wl := by rw [hwl]; exact (Below.refl _ _).alloc (Nat.le_refl _) _
            rw [← hwl]
            obtain ⟨g0, hg0⟩ : ∃ g0, g0 = wn1.heap.size := ⟨_, rfl⟩
            rw [← hg0] at hR0 ⊢
            have hR1 := (hR1.below hbl).more hbl.size
            have hW := hW.trans (hbl.mono hW.size)
            refine hK.out _ _ (HF.out _ hW) ?_
            clear hK K hwl hg0 hbl
            refine CanT.imp rfl (fun K hK => ?_)
            go_simp
            refine Calls.mono (H2.out _) ?_
            rintro e2 wn2 ⟨v2, rfl, ho2, hb2⟩
            obtain ⟨A2, c2, rfl, hp2, hm2, hR2, -⟩ := ho2.opens
            have hR1 := (hR1.below hb2).more hb2.size
            have hR0 := (hR0.below hb2).more hb2.size
            have hW := hW.trans (hb2.mono hW.size)
            (try go_simp)
            refine hK.out _ _ (HF.out _ hW) ?_
            clear hK K ho2 hb2
            have hbb : ReadBB (wn2.alloc (.cells #[.slice (some ⟨g0, 0, none⟩) 1 1, .slice A1 P1.length c1, .slice A2 P2.length c2] 22)) (wn2.alloc (.cells #[.slice (some ⟨g0, 0, none⟩) 1 1, .slice A1 P1.length c1, .slice A2 P2.length c2] 22)).heap.size (some ⟨wn2.heap.size, 0, none⟩) [[1], P1, P2] :=
              (ReadBB.lit3 wn2 22 (some ⟨g0, 0, none⟩) A1 A2 1 1 P1.length c1 P2.length c2 [1] P1 P2 wn2.heap.size wn2.heap.size rfl (Nat.le_refl _) rfl rfl rfl hR0 hR1 hR2 (by simp) hp1 hp2 (by simp) hm1 hm2).more (by simp)
            have hjn := Fi.join_calls [[1], P1, P2] (some ⟨wn2.heap.size, 0, none⟩) 3 _ hbb (by simp) (by simp [Fi.sumLen]; omega)
            have Hjn := Lib.hid hjn
            clear hbb hjn hR0 hR1 hR2
            refine CanT.imp rfl (fun K hK => ?_)
            go_simp
            have hW2 := hW.alloc hW.size (.cells #[.slice (some ⟨g0, 0, none⟩) 1 1, .slice A1 P1.length c1, .slice A2 P2.length c2] 22)
            refine hK.out _ _ (HF.out _ hW2) ?_
            clear hK K
            refine CanT.imp rfl (fun K hK => ?_)
            go_simp
            refine Calls.mono Hjn.out ?_
            rintro e5 w5' ⟨v5, rfl, ho5, hb5⟩
            obtain ⟨A5, c5, rfl, hp5, hm5, hR5, -⟩ := ho5.opens
            have hW5 := hW2.trans (hb5.mono hW2.size)
            (try go_simp)
            refine hK.out _ _ (HF.out _ hW5) ?_
            clear hK K hW2 hb5 ho5
            have hfl : [[1], P1, P2].flatten = [1] ++ P1 ++ P2 := by simp
            rw [hfl] at hR5 hp5
            have hl5 : ([1] ++ P1 ++ P2).length ≤ 17 := by simp only [List.length_append, List.length_cons, List.length_nil]; omega
            have hoq := HOs.out.keptB hW5
            refine CanT.imp rfl (fun K hK => ?_)
            refine CanF.step_appBg _ ?_ (.tmp 14) (.tmp 23) 22 rfl w.heap.size 5 i0 Try.underlying22 Hi.out _ _ rfl hoq w5'.heap.size A5 _ c5 ([1] ++ P1 ++ P2) rfl (by simp only [List.length_append, List.length_cons, List.length_nil]; omega) hR5 (by have := Hq4.out; omega) (by have := hW5.size; have := HBs.out.size; omega) ?_
            focus (go_simp; done)
            intro v6 w6 ho6 hg6 _ hb6
            have HO6 := Lib.hid ho6
            have HB6 := Lib.hid (HBs.out.trans (((hW5.mono HBs.out.size)).trans hb6))
            have hf5 := HF.out _ hW5
            have hsz5 : wr.heap.size < w5'.heap.size := by have := hW5.size; have := Hlt.out; omega
            have hf6 : w6.cell? ⟨wr.heap.size, 1, none⟩ = some (.int .i64 x2) ∧ w6.cell? ⟨wr.heap.size, 2, none⟩ = some (.int .i64 x3) := ⟨(World.cell?_of_block (hg6.block wr.heap.size hsz5 (fun e => Hne.out _ e.symm rfl))).trans hf5.1, (World.cell?_of_block (hg6.block wr.heap.size hsz5 (fun e => Hne.out _ e.symm rfl))).trans hf5.2⟩
            (try go_simp)
            refine hK.out _ _ hf6 ?_
            clear hK K hf5 hsz5 hf6 hW5 hR5 ho6 hg6 hb6 hoq hW
            repeat (first | (refine CanT.skip rfl ?_ (fun K hK => ?_); (focus (go_simp; done)); go_simp; refine hK _ ?_; clear hK K) | (refine CanT.pur rfl ?_ ?_; (focus (go_simp; done)); refine ⟨?_, ?_, ?_⟩; rotate_left; (focus (intro w'; go_simp; rfl)); (focus (intro K hK; go_simp; refine hK _ ?_; clear hK K))))
            refine CanT.done ?_
            go_wp2_with fail
            go_roundg (n - (k + 1))
            case rel => exact ⟨k + 1, by omega, rfl, rfl, by rw [Hs.out]; exact HO6.out, HB6.out⟩
            case measure => have := Hq.out; omega
          · refine CanT.imp rfl (fun K hK => ?_)
            go_simp
            refine Calls.mono (H2.out _) ?_
            rintro e2 wn2 ⟨v2, rfl, ho2, hb2⟩
            obtain ⟨A2, c2, rfl, hp2, hm2, hR2, -⟩ := ho2.opens
            have hR1 := (hR1.below hb2).more hb2.size
            have hW := hW.trans (hb2.mono hW.size)
            (try go_simp)
            refine hK.out _ _ (HF.out _ hW) ?_
            clear hK K ho2 hb2
            refine CanT.imp rfl (fun K hK => ?_)
            go_simp
            obtain ⟨wl, hwl⟩ : ∃ wl, wl = wn2.alloc (.cells #[.int .u8 1] 5) := ⟨_, rfl⟩
            have hR0 : ReadB wl wl.heap.size (some ⟨wn2.heap.size, 0, none⟩) [1] := by rw [hwl]; simpa using ReadB.lit1 wn2 5 1 1 rfl
            have hbl : Below wn2.heap.size wn2 wl := by rw [hwl]; exact (Below.refl _ _).alloc (Nat.le_refl _) _
            rw [← hwl]
            obtain ⟨g0, hg0⟩ : ∃ g0, g0 = wn2.heap.size := ⟨_, rfl⟩
            rw [← hg0] at hR0 ⊢
            have hR1 := (hR1.below hbl).more hbl.size
            have hR2 := (hR2.below hbl).more hbl.size
            have hW := hW.trans (hbl.mono hW.size)
            refine hK.out _ _ (HF.out _ hW) ?_
            clear hK K hwl hg0 hbl
            have hbb : ReadBB (wl.alloc (.cells #[.slice (some ⟨g0, 0, none⟩) 1 1, .slice A1 P1.length c1, .slice A2 P2.length c2] 22)) (wl.alloc (.cells #[.slice (some ⟨g0, 0, none⟩) 1 1, .slice A1 P1.length c1, .slice A2 P2.length c2] 22)).heap.size (some ⟨wl.heap.size, 0, none⟩) [[1], P1, P2] :=
              (ReadBB.lit3 wl 22 (some ⟨g0, 0, none⟩) A1 A2 1 1 P1.length c1 P2.length c2 [1] P1 P2 wl.heap.size wl.heap.size rfl (Nat.le_refl _) rfl rfl rfl hR0 hR1 hR2 (by simp) hp1 hp2 (by simp) hm1 hm2).more (by simp)
            have hjn := Fi.join_calls [[1], P1, P2] (some ⟨wl.heap.size, 0, none⟩) 3 _ hbb (by simp) (by simp [Fi.sumLen]; omega)
            have Hjn := Lib.hid hjn
            clear hbb hjn hR0 hR1 hR2
            refine CanT.imp rfl (fun K hK => ?_)
            go_simp
            have hW2 := hW.alloc hW.size (.cells #[.slice (some ⟨g0, 0, none⟩) 1 1, .slice A1 P1.length c1, .slice A2 P2.length c2] 22)
            refine hK.out _ _ (HF.out _ hW2) ?_
            clear hK K
            refine CanT.imp rfl (fun K hK => ?_)
            go_simp
            refine Calls.mono Hjn.out ?_
            rintro e5 w5' ⟨v5, rfl, ho5, hb5⟩
            obtain ⟨A5, c5, rfl, hp5, hm5, hR5, -⟩ := ho5.opens
            have hW5 := hW2.trans (hb5.mono hW2.size)
            (try go_simp)
            refine hK.out _ _ (HF.out _ hW5) ?_
            clear hK K hW2 hb5 ho5
            have hfl : [[1], P1, P2].flatten = [1] ++ P1 ++ P2 := by simp
            rw [hfl] at hR5 hp5
            have hl5 : ([1] ++ P1 ++ P2).length ≤ 17 := by simp only [List.length_append, List.length_cons, List.length_nil]; omega
            have hoq := HOs.out.keptB hW5
            refine CanT.imp rfl (fun K hK => ?_)
            refine CanF.step_appBg _ ?_ (.tmp 14) (.tmp 23) 22 rfl w.heap.size 5 i0 Try.underlying22 Hi.out _ _ rfl hoq w5'.heap.size A5 _ c5 ([1] ++ P1 ++ P2) rfl (by simp only [List.length_append, List.length_cons, List.length_nil]; omega) hR5 (by have := Hq4.out; omega) (by have := hW5.size; have := HBs.out.size; omega) ?_
            focus (go_simp; done)
            intro v6 w6 ho6 hg6 _ hb6
            have HO6 := Lib.hid ho6
            have HB6 := Lib.hid (HBs.out.trans (((hW5.mono HBs.out.size)).trans hb6))
            have hf5 := HF.out _ hW5
            have hsz5 : wr.heap.size < w5'.heap.size := by have := hW5.size; have := Hlt.out; omega
            have hf6 : w6.cell? ⟨wr.heap.size, 1, none⟩ = some (.int .i64 x2) ∧ w6.cell? ⟨wr.heap.size, 2, none⟩ = some (.int .i64 x3) := ⟨(World.cell?_of_block (hg6.block wr.heap.size hsz5 (fun e => Hne.out _ e.symm rfl))).trans hf5.1, (World.cell?_of_block (hg6.block wr.heap.size hsz5 (fun e => Hne.out _ e.symm rfl))).trans hf5.2⟩
            (try go_simp)
            refine hK.out _ _ hf6 ?_
            clear hK K hf5 hsz5 hf6 hW5 hR5 ho6 hg6 hb6 hoq hW
            repeat (first | (refine CanT.skip rfl ?_ (fun K hK => ?_); (focus (go_simp; done)); go_simp; refine hK _ ?_; clear hK K) | (refine CanT.pur rfl ?_ ?_; (focus (go_simp; done)); refine ⟨?_, ?_, ?_⟩; rotate_left; (focus (intro w'; go_simp; rfl)); (focus (intro K hK; go_simp; refine hK _ ?_; clear hK K))))
            refine CanT.done ?_
            go_wp2_with fail
            go_roundg (n - (k + 1))
            case rel => exact ⟨k + 1, by omega, rfl, rfl, by rw [Hs.out]; exact HO6.out, HB6.out⟩
            case measure => have := Hq.out; omega
      | false =>
        have hs2 : put ((ops L).take (k + 1)) = q ++ ([0] ++ Fm.text x4) := by rw [hs]; simp [putx]
        have Hs := Lib.hid hs2
        have HR : Hid (ReadB wr w.heap.size D x4) := Lib.hid (w5.below HB.out)
        have htl : (Fm.text x4).length ≤ 65544 := by
          have := Fm.num_len (x4.length : Int)
          have := Hx4.out
          simp only [Fm.text, List.length_append]
          omega
        have htx := fun w => Fi.text_calls x4 (by have := Hx4.out; omega) w
        obtain ⟨T, hT⟩ : ∃ T, T = Fm.text x4 := ⟨_, rfl⟩
        rw [← hT] at Hs htl htx
        have Htx := Lib.hid htx
        have Htl := Lib.hid htl
        clear hx hc w5 hat hs hs2 hT htl htx hql hdl hqq hq4 hko
        have hst := strof_dl (wr.alloc (.cells #[.bool false, .int .i64 x2, .int .i64 x3, .slice D x4.length e] 54) |>.alloc (.cells #[.int .u8 0] 5)) w.heap.size D e x4 ((HR.out.alloc HB.out.size _).alloc (by have := HB.out.size; simp; omega) _)
        have hr0 : ReadB (wr.alloc (.cells #[.bool false, .int .i64 x2, .int .i64 x3, .slice D x4.length e] 54) |>.alloc (.cells #[.int .u8 0] 5)) (wr.alloc (.cells #[.bool false, .int .i64 x2, .int .i64 x3, .slice D x4.length e] 54) |>.alloc (.cells #[.int .u8 0] 5)).heap.size (some ⟨wr.heap.size + 1, 0, none⟩) [0] := by simpa using ReadB.lit1 (wr.alloc (.cells #[.bool false, .int .i64 x2, .int .i64 x3, .slice D x4.length e] 54)) 5 0 0 rfl
        have hb0 : Below wr.heap.size wr (wr.alloc (.cells #[.bool false, .int .i64 x2, .int .i64 x3, .slice D x4.length e] 54) |>.alloc (.cells #[.int .u8 0] 5)) := ((Below.refl _ _).alloc (Nat.le_refl _) _).alloc (by simp) _
        have Hr0 := Lib.hid hr0
        have Hb0 := Lib.hid hb0
        clear hr0 hb0
        go_wp2_with (refine wpList_load_mid rfl 54 (.tmp 10) rfl b (o + k * 4) rfl [.bool false, .int .i64 x2, .int .i64 x3, .slice D x4.length e] _ HC.out Try.underlying54 rfl (by kernel_rfl) ?_)
        refine Calls.mono (Htx.out _) ?_
        rintro e1 w1' ⟨v1, rfl, ho1, hb1⟩
        obtain ⟨A1, c1, rfl, p1, p2, p3, -⟩ := ho1.opens
        have hbw : Below wr.heap.size wr w1' := Hb0.out.trans (hb1.mono (by simp; omega))
        have hbb : ReadBB (w1'.alloc (.cells #[.slice (some ⟨wr.heap.size + 1, 0, none⟩) 1 1, .slice A1 T.length c1] 22)) (w1'.alloc (.cells #[.slice (some ⟨wr.heap.size + 1, 0, none⟩) 1 1, .slice A1 T.length c1] 22)).heap.size (some ⟨w1'.heap.size, 0, none⟩) [[0], T] :=
          (ReadBB.lit2 w1' 22 (some ⟨wr.heap.size + 1, 0, none⟩) A1 1 1 T.length c1 [0] T w1'.heap.size w1'.heap.size rfl (Nat.le_refl _) rfl rfl ((Hr0.out.below hb1).more hb1.size) p3 (by simp) p1 (by simp) p2).more (by simp)
        have hjn := Fi.join_calls [[0], T] (some ⟨w1'.heap.size, 0, none⟩) 2 _ hbb (by simp) (by have := Htl.out; simp [Fi.sumLen]; omega)
        have Hjn := Lib.hid hjn
        have Hbw := Lib.hid hbw
        clear hbb hjn ho1 hb1 p3 hst Hr0 hbw
        go_wp2_with fail
        refine Calls.mono Hjn.out ?_
        rintro e5 w5' ⟨v5, rfl, ho5, hb5⟩
        obtain ⟨A5, c5, rfl, hp5, hm5, hR5, -⟩ := ho5.opens
        have hW5 := Hbw.out.trans (((Below.refl _ _).alloc (Nat.le_refl _) _).trans (hb5.mono (by simp)) |>.mono Hbw.out.size)
        have hfl : [[0], T].flatten = [0] ++ T := by simp
        rw [hfl] at hR5 hp5
        have hl5 : ([0] ++ T).length ≤ 65545 := by have := Htl.out; simp only [List.length_append, List.length_cons, List.length_nil]; omega
        have HO5 := Lib.hid (Ho.out.keptB hW5)
        have HW5 := Lib.hid (HB.out.trans (hW5.mono HB.out.size))
        have HR5 := Lib.hid hR5
        have Hfl : Hid (T.length + 1 = ([(0 : UInt8)] ++ T).length) := Lib.hid (by simp only [List.length_append, List.length_cons, List.length_nil]; omega)
        have Hl5 := Lib.hid hl5
        clear hR5 hb5 ho5 hW5 hfl hl5 Ho HB HR Hjn
        go_wp2_with (at_builtin; go_loud (refine wpList_appB _ rfl (.tmp 25) (.tmp 32) 22 rfl w.heap.size 5 i0 Try.underlying22 Hi.out _ _ rfl HO5.out w5'.heap.size A5 _ c5 ([0] ++ T) rfl Hfl.out HR5.out (by have := Hq4.out; have := Hl5.out; omega) (by have := HW5.out.size; omega) ?_); intro v6 w6 ho6 hg6 _ hb6)
        have HO6 := Lib.hid ho6
        have HB6 := Lib.hid (HW5.out.trans hb6)
        clear ho6 hg6 hb6
        go_wp2_with fail
        go_roundg (n - (k + 1))
        case rel => exact ⟨k + 1, by omega, rfl, rfl, by rw [Hs.out]; exact HO6.out, HB6.out⟩
        case measure => have := Hq.out; omega
    · have hke : k = n := by omega
      go_wp2_with fail
      go_ret
      refine ⟨_, rfl, ?_, HB.out⟩
      have ho := Ho.out
      rw [List.take_of_length_le (by rw [Hol.out]; omega)] at ho
      exact ho
end Dl
end Go.Proofs.Ytiofkhjpknfkgaa
/- bytes.Clone. -/
namespace Go.Proofs.Ytiofkhjpknfkgaa
namespace Cl
open Go.RowKit Ba
set_option linter.unusedVariables false
theorem info5 : (Try.prog.info? 5).map (fun i => (i.zero, i.size, i.bytes)) = some (some (.int .u8 0), 1, 1) := by kernel_rfl

set_option maxRecDepth 100000 in
set_option maxHeartbeats 400000 in
theorem clone_calls (l : List UInt8) (A : Option Addr) (c : Nat) (hc : l.length ≤ c) (hl : l.length ≤ 140737488355328) (w : World) (hr : ReadB w w.heap.size A l) : Calls Try.prog 29 #[.slice A l.length c] w
    fun e w' => ∃ v, e = .returned v ∧ OwnB w' w.heap.size 5 v l ∧ Below w.heap.size w w' := by
  obtain ⟨i0, hi0⟩ := isByte_of info5
  have Hi := Lib.hid hi0
  have Hr := Lib.hid hr
  clear hi0 hr
  rcases A with _ | ad
  · have hl0 : l = [] := by
      rcases l with _ | ⟨x, l⟩
      · rfl
      · obtain ⟨_, _, hx, _⟩ := Hr.out (by simp)
        cases hx
    subst hl0
    have hnil := fun (w : World) => Lib.run_eql_slice_nil (P := Try.prog) w 22 5 none 0 c 0 0 Try.underlying22
    simp only [List.length_nil]
    go_enter Try.func29, Try.ntmps29
    go_wp2
    go_ret
    exact ⟨_, rfl, OwnB.nil, Below.refl _ _⟩
  · have hnil := fun (w : World) => Lib.run_eql_slice_nil (P := Try.prog) w 22 5 (some ad) l.length c 0 0 Try.underlying22
    go_enter Try.func29, Try.ntmps29
    have hown0 : OwnB (w.alloc (.cells #[] 5)) w.heap.size 5 (.slice (some ⟨w.heap.size, 0, none⟩) 0 0) [] := OwnB.lit0 w 5 w.heap.size w.heap.size rfl (Nat.le_refl _)
    have hr0 : ReadB (w.alloc (.cells #[] 5)) w.heap.size (some ad) l := Hr.out.alloc (Nat.le_refl _) _
    have Ho0 := Lib.hid hown0
    have Hr0 := Lib.hid hr0
    clear hown0 hr0
    go_wp2_with (at_builtin; go_loud (refine wpList_appB _ rfl (.tmp 5) (.tmp 6) 22 rfl w.heap.size 5 i0 Try.underlying22 Hi.out _ [] rfl Ho0.out w.heap.size (some ad) _ c l rfl rfl Hr0.out (by simp; omega) (by simp) ?_); intro v1 w1 ho1 _ _ hb1)
    go_ret
    rw [List.nil_append] at ho1
    exact ⟨v1, rfl, ho1, ((Below.refl _ _).alloc (Nat.le_refl _) _).trans hb1⟩
theorem cloneN {l : List UInt8} {A : Option Addr} {n c : Nat} {w : World} (hn : n = l.length) (hc : l.length ≤ c) (hl : l.length ≤ 140737488355328) (hr : ReadB w w.heap.size A l) : Calls Try.prog 29 #[.slice A n c] w
    fun e w' => ∃ v, e = .returned v ∧ OwnB w' w.heap.size 5 v l ∧ Below w.heap.size w w' := by
  subst hn
  exact clone_calls l A c hc hl w hr
end Cl
end Go.Proofs.Ytiofkhjpknfkgaa
/- A struct that is built of its parts, over lists of cells. -/
namespace Go.Proofs.Ytiofkhjpknfkgaa
namespace Ba
open Go.RowKit
set_option linter.unusedVariables false
theorem fold_set (vs : List Value) : ∀ (cs : Array Value) (off n : Nat), off + n + vs.length ≤ cs.size →
    ((vs.zipIdx n).foldl (fun cs (c, j) => cs.setIfInBounds (off + j) c) cs).toList = cs.toList.take (off + n) ++ vs ++ cs.toList.drop (off + n + vs.length) := by
  induction vs with
  | nil => intro cs off n h; simp
  | cons v vs ih =>
    intro cs off n h
    simp only [List.length_cons] at h
    rw [List.zipIdx_cons, List.foldl_cons, ih _ off (n + 1) (by simp; omega)]
    simp only [Array.toList_setIfInBounds, List.length_cons]
    have hl : off + n < cs.toList.length := by simp; omega
    rw [List.drop_set_of_lt (by omega), ← Nat.add_assoc, List.take_succ_eq_append_getElem (by simpa using hl), List.take_set_of_le (by omega)]
    simp
    omega
def fillL (pl : Nat → Option (Nat × Nat)) : List Value → List (Nat × Value) → Option (List Value)
  | Z, [] => some Z
  | Z, (i, v) :: rest => match pl i with
    | none => none
    | some (off, size) => if v.cells.toList.length ≠ size ∨ off + size > Z.length then none else fillL pl (Z.take off ++ v.cells.toList ++ Z.drop (off + size)) rest
theorem fill_eq (pl : Nat → Option (Nat × Nat)) : ∀ (parts : List (Nat × Value)) (cells : Array Value) (cs : List Value), fillL pl cells.toList parts = some cs → Instr.fill pl cells parts = some cs.toArray
  | [], cells, cs, h => by
    simp only [fillL, Option.some.injEq] at h
    subst h
    simp [Instr.fill]
  | (i, v) :: rest, cells, cs, h => by
    unfold fillL at h
    unfold Instr.fill
    cases hp : pl i with
    | none => rw [hp] at h; cases h
    | some p =>
      obtain ⟨off, size⟩ := p
      rw [hp] at h
      simp only at h ⊢
      split at h
      · cases h
      · rename_i hc
        have h1 : v.cells.size = size := by have : v.cells.toList.length = size := by omega
                                            simpa using this
        have h2 : ¬ (off + size > cells.toList.length) := by omega
        have h3 : off + size ≤ cells.size := by simpa using h2
        rw [if_neg (by simp [h1]; omega)]
        refine fill_eq pl rest _ cs ?_
        have e := fold_set v.cells.toList cells off 0 (by simp; omega)
        have e0 : (v.cells.zipIdx.foldl (fun cs (c, j) => cs.setIfInBounds (off + j) c) cells) = ((v.cells.toList.zipIdx 0).foldl (fun cs (c, j) => cs.setIfInBounds (off + j) c) cells) := by
          rw [← Array.foldl_toList]
          simp
        rw [e0, e]
        simp only [Nat.add_zero, Array.length_toList, h1]
        exact h
/-- a struct's zero cells, and where its parts lie -/
def shapeOf (P : Program) (t : TypeId) : Option (List Value × List (Nat × Nat)) :=
  match P.info? t, P.underlying t with
  | some it, some (.struct fields) =>
    match it.zero, fields.toList.mapM (fun f => (P.info? f.type).map fun i => (f.offset, i.size)) with
    | some z, some places => some (z.cells.toList, places)
    | _, _ => none
  | _, _ => none
theorem run_buildL {P : Program} (w : World) (t : TypeId) (parts : Array (Nat × Value)) (Z : List Value) (pl : List (Nat × Nat)) (hs : shapeOf P t = some (Z, pl)) (cs : List Value) (hf : fillL (pl[·]?) Z parts.toList = some cs) :
    (Instr.build t parts).run P w = .ok (.agg cs.toArray) w := by
  refine run_build w t parts cs.toArray ?_
  unfold shapeOf at hs
  unfold Program.built
  split at hs
  · rename_i it fields h1 h2
    rw [h1, h2]
    simp only
    split at hs
    · rename_i z places h3 h4
      rw [h3, h4]
      simp only [Option.some.injEq, Prod.mk.injEq] at hs
      obtain ⟨rfl, rfl⟩ := hs
      refine fill_eq _ _ _ _ ?_
      simpa using hf
    · cases hs
  · cases hs
theorem run_bsliceL {P : Program} (w : World) (t E : TypeId) (ht : P.underlying t = some (.slice E)) (i : TypeInfo) (sz bytes : Nat) (hi : IsRec P E i sz bytes) (len : Nat) (h0 : 0 < len * sz) (h24 : len * sz ≤ 16777216) (ps : Array (Nat × Value)) (cs : List Value)
    (hf : ∀ Z : List Value, Z.length = len * sz → fillL (fun i => some (i * sz, sz)) Z ps.toList = some cs) :
    (Instr.buildSlice t len ps).run P w = .ok (.slice (some ⟨w.heap.size, 0, none⟩) len len) (w.alloc (.cells cs.toArray E)) := by
  obtain ⟨h1, ⟨z, hz, hzs⟩, h2, h3⟩ := hi
  have hfill := fill_eq (fun i => some (i * sz, sz)) ps.toList ((Array.range (len * sz)).map (z.cells[· % z.cells.size]!)) cs (hf _ (by simp))
  have hs : (sizeOf E).run P w = .ok sz w := by simp [sizeOf, typeInfo, h1, h2]
  have hzv : (zeroValue E).run P w = .ok z w := by simp [zeroValue, typeInfo, h1, hz]
  unfold Instr.buildSlice
  simp only [Sem.run_bind, run_underlying ht, Result.andThen_ok, hs]
  rw [if_neg (by omega), if_neg (by omega)]
  simp only [Sem.run_bind, Sem.run_pure, Result.andThen_ok, hzv, hfill]
  rfl
theorem fill_one (sz : Nat) (v : Value) (h : v.cells.toList.length = sz) (Z : List Value) (hZ : Z.length = 1 * sz) : fillL (fun i => some (i * sz, sz)) Z [(0, v)] = some v.cells.toList := by
  simp only [fillL]
  rw [if_neg (by omega), Nat.zero_mul, Nat.zero_add, List.drop_eq_nil_of_le (by omega)]
  simp
theorem fill_two (sz : Nat) (v u : Value) (h : v.cells.toList.length = sz) (h2 : u.cells.toList.length = sz) (Z : List Value) (hZ : Z.length = 2 * sz) : fillL (fun i => some (i * sz, sz)) Z [(0, v), (1, u)] = some (v.cells.toList ++ u.cells.toList) := by
  simp only [fillL]
  rw [if_neg (by omega), Nat.zero_mul, Nat.zero_add, List.take_zero, List.nil_append]
  rw [if_neg (by simp only [List.length_append, List.length_drop]; omega), Nat.one_mul]
  congr 1
  rw [List.take_append_of_le_length (by omega), List.take_of_length_le (by omega), List.drop_eq_nil_of_le (by simp only [List.length_append, List.length_drop]; omega), List.append_nil]
theorem wp_bslice {P : Program} (w : World) {o : Oper} {a : Act} {K : Act → World → Prop} {Q : Exit → Act → World → Prop} (t E : TypeId) (len : Nat) (parts : Array (Nat × Operand)) (ho : o.op = .buildSlice t len parts)
    (ht : P.underlying t = some (.slice E)) (i : TypeInfo) (sz bytes : Nat) (hi : IsRec P E i sz bytes) (h0 : 0 < len * sz) (h24 : len * sz ≤ 16777216) (ps : List (Nat × Value)) (hps : parts.toList.map (fun (i, x) => (i, a.eval x)) = ps) (cs : List Value)
    (hf : ∀ Z : List Value, Z.length = len * sz → fillL (fun i => some (i * sz, sz)) Z ps = some cs)
    (h : K (a.put o.dst (.slice (some ⟨w.heap.size, 0, none⟩) len len)) (w.alloc (.cells cs.toArray E))) : o.wp P a w K Q := by
  have e : parts.map (fun (i, x) => (i, a.eval x)) = ps.toArray := by apply Array.ext'; rw [Array.toList_map]; exact hps
  unfold Oper.wp execOp
  simp only [ho, Sem.run_bind]
  rw [e, run_bsliceL w t E ht i sz bytes hi len h0 h24 ps.toArray cs hf]
  exact h
theorem step_bslice {P : Program} (w : World) {ops : Array Oper} {o : Oper} {a : Act} {K : Act → World → Prop} {Q : Exit → Act → World → Prop} {R : Prop} (hgd : Region.wanted o (yielded ops a.tmps) = true) (t E : TypeId) (len : Nat) (parts : Array (Nat × Operand)) (ho : o.op = .buildSlice t len parts)
    (ht : P.underlying t = some (.slice E)) (i : TypeInfo) (sz bytes : Nat) (hi : IsRec P E i sz bytes) (h0 : 0 < len * sz) (h24 : len * sz ≤ 16777216) (ps : List (Nat × Value)) (hps : parts.toList.map (fun (i, x) => (i, a.eval x)) = ps) (cs : List Value)
    (hf : ∀ Z : List Value, Z.length = len * sz → fillL (fun i => some (i * sz, sz)) Z ps = some cs)
    (h : K (a.put o.dst (.slice (some ⟨w.heap.size, 0, none⟩) len len)) (w.alloc (.cells cs.toArray E))) : if Region.wanted o (yielded ops a.tmps) = true then Oper.wp P o a w K Q else R := by
  rw [if_pos hgd]
  exact wp_bslice w t E len parts ho ht i sz bytes hi h0 h24 ps hps cs hf h
theorem wpList_bslice {P : Program} (w : World) {ops : Array Oper} {rest : List Oper} {o : Oper} {a : Act} {Q : Exit → Act → World → Prop} (hgd : o.guard = none) (t E : TypeId) (len : Nat) (parts : Array (Nat × Operand)) (ho : o.op = .buildSlice t len parts)
    (ht : P.underlying t = some (.slice E)) (i : TypeInfo) (sz bytes : Nat) (hi : IsRec P E i sz bytes) (h0 : 0 < len * sz) (h24 : len * sz ≤ 16777216) (ps : List (Nat × Value)) (hps : parts.toList.map (fun (i, x) => (i, a.eval x)) = ps) (cs : List Value)
    (hf : ∀ Z : List Value, Z.length = len * sz → fillL (fun i => some (i * sz, sz)) Z ps = some cs)
    (h : wpList P ops Q rest (a.put o.dst (.slice (some ⟨w.heap.size, 0, none⟩) len len)) (w.alloc (.cells cs.toArray E))) : wpList P ops Q (o :: rest) a w :=
  wpList_plain hgd fun _ hK => wp_bslice w t E len parts ho ht i sz bytes hi h0 h24 ps hps cs hf (hK _ _ h)
theorem wpList_bldL {P : Program} (w : World) {ops : Array Oper} {rest : List Oper} {o : Oper} {a : Act} {Q : Exit → Act → World → Prop} (hgd : o.guard = none) (t : TypeId) (parts : Array (Nat × Operand)) (ho : o.op = .build t parts)
    (ps : Array (Nat × Value)) (hps : parts.toList.map (fun (i, x) => (i, a.eval x)) = ps.toList) (cs : Array Value) (hr : (Instr.build t ps).run P w = .ok (.agg cs) w)
    (h : wpList P ops Q rest (a.put o.dst (.agg cs)) w) : wpList P ops Q (o :: rest) a w := by
  refine wpList_plain hgd fun _ hK => ?_
  have e : parts.map (fun (i, x) => (i, a.eval x)) = ps := by apply Array.ext'; rw [Array.toList_map]; exact hps
  unfold Oper.wp execOp
  simp only [ho, Sem.run_bind]
  rw [e, hr]
  exact hK _ _ h
end Ba
namespace CanT
open CanM (St)
open Go.RowKit Ba
variable {P : Program} {ops : Array Oper} {Q : Exit → Act → World → Prop} {F : World → Prop} {k : Nat} {i : Nat} {o : Oper} {a : Act} {w : World} {rest : Ord}
theorem bld (hi : ops[i]? = some o) (hg : Region.wanted o (yielded ops a.tmps) = true) (t : TypeId) (parts : Array (Nat × Operand)) (ho : o.op = .build t parts) (ps : Array (Nat × Value)) (hps : parts.toList.map (fun (i, x) => (i, a.eval x)) = ps.toList) (cs : Array Value)
    (hr : ∀ w', (Instr.build t ps).run P w' = .ok (.agg cs) w') (h : ∀ K : Act → Prop, (∀ a, wpCan P ops Q k rest F a w → K a) → K (a.put o.dst (.agg cs))) : wpCan P ops Q k (.op i 2 rest) F a w := by
  refine pur hi hg ⟨.agg cs, fun w' => ?_, h⟩
  unfold execOp
  simp only [ho, Sem.run_bind]
  have e : parts.map (fun (i, x) => (i, a.eval x)) = ps := by apply Array.ext'; rw [Array.toList_map]; exact hps
  rw [e, hr w']
  rfl
end CanT
end Go.Proofs.Ytiofkhjpknfkgaa

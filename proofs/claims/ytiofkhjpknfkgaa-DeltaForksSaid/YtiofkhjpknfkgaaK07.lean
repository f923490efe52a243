/- What gives up, to the program: must, and a number that is taken off. -/
import Derived.Test.YtiofkhjpknfkgaaK01
import Derived.Test.YtiofkhjpknfkgaaK02
import Derived.Test.YtiofkhjpknfkgaaK03
import Derived.Test.YtiofkhjpknfkgaaK04
import Derived.Test.YtiofkhjpknfkgaaK05
import Derived.Test.YtiofkhjpknfkgaaK06
import Derived.Defers
import Derived.Recover
import Derived.WalkLawsBesides
import Derived.Laws.Rows
namespace Go.Proofs.Ytiofkhjpknfkgaa
namespace Vm
theorem sh_facts (l : List UInt8) : (shortest l).1 < 4611686018427387904 ∧ ((shortest l).2.2 = 0 ∨ (shortest l).2.2 = 3 ∨ (shortest l).2.2 = 4) ∧ ((shortest l).2.2 = 0 → (shortest l).2.1 ≤ l.length) := by
  have h := get_bound l
  have h3 := h.2.2
  unfold shortest
  split
  · rename_i h0
    refine ⟨by simp, ?_, fun h => absurd h h0⟩
    rcases h3 with h3 | h3
    · exact absurd h3 h0
    · exact .inr (.inl h3)
  · split
    · exact ⟨by simp, .inr (.inr rfl), fun h => by simp at h⟩
    · rename_i h0 _
      have h0' : (get l).2.2 = 0 := by simpa using h0
      exact ⟨h.1, .inl h0', fun _ => (h.2.1 h0').2⟩
end Vm
namespace Dl
open Go.RowKit Ba Tm Dm Os_
set_option linter.unusedVariables false
/-- a fault with an error, as it is thrown -/
def flt (e : Int) : Value := .iface 73 (.agg #[.int .i64 e])
set_option maxHeartbeats 1000000 in
theorem must_ok (e : Int) (w : World) : Calls Try.prog 42 #[.bool true, .int .i64 e] w fun r w' => r = .returned (.tuple #[]) ∧ w = w' := by
  go_enter Try.func42, Try.ntmps42
  go_wp2
  go_end0
  exact ⟨rfl, rfl⟩
set_option maxHeartbeats 1000000 in
theorem must_no (e : Int) (w : World) : Calls Try.prog 42 #[.bool false, .int .i64 e] w fun r w' => r = .panicked [{ v := flt e, recovered := false }] ∧ w = w' := by
  go_enter Try.func42, Try.ntmps42
  go_wp2
  exact ⟨rfl, rfl, rfl⟩
set_option maxRecDepth 100000 in
set_option maxHeartbeats 2000000 in
theorem number_bad (l : List UInt8) (A : Option Addr) (n c B : Nat) (hn : n = l.length) (w : World) (h : ReadB w B A l) (hlc : n ≤ c) (hcm : c ≤ 9223372036854775807) (hs : (Vm.shortest l).2.2 ≠ 0) :
    Calls Try.prog 43 #[.slice A n c] w fun r w' => r = .panicked [{ v := flt (if (Vm.shortest l).2.2 = 4 then 4 else 0), recovered := false }] ∧ Below w.heap.size w w' := by
  subst hn
  have hsh := Vi.shortest_calls l A c B w h hlc hcm
  obtain ⟨hb1, hb2, hb3⟩ := Vm.sh_facts l
  generalize hz : Vm.shortest l = z at *
  obtain ⟨z1, z2, z3⟩ := z
  simp only at *
  have Hsh := Lib.hid hsh
  clear hsh hz h hb3
  rcases hb2 with rfl | rfl | rfl
  · exact absurd rfl hs
  · rw [if_neg (by omega)]
    go_enter Try.func43, Try.ntmps43
    go_wp2_with fail
    refine Calls.mono Hsh.out ?_
    rintro e1 w1 ⟨rfl, hb⟩
    have HB := Lib.hid hb
    clear hb
    go_wp2_with fail
    refine Calls.mono (must_no _ _) ?_
    rintro e2 w2 ⟨rfl, rfl⟩
    go_wp2_with fail
    exact ⟨rfl, rfl, HB.out⟩
  · rw [if_pos rfl]
    go_enter Try.func43, Try.ntmps43
    go_wp2_with fail
    refine Calls.mono Hsh.out ?_
    rintro e1 w1 ⟨rfl, hb⟩
    have HB := Lib.hid hb
    clear hb
    go_wp2_with fail
    refine Calls.mono (must_ok _ _) ?_
    rintro e2 w2 ⟨rfl, rfl⟩
    go_wp2_with fail
    refine Calls.mono (must_no _ _) ?_
    rintro e2 w2 ⟨rfl, rfl⟩
    go_wp2_with fail
    exact ⟨rfl, rfl, HB.out⟩
set_option maxRecDepth 100000 in
set_option maxHeartbeats 2000000 in
theorem number_ok (l : List UInt8) (A : Option Addr) (n c B : Nat) (hn : n = l.length) (w : World) (h : ReadB w B A l) (hlc : n ≤ c) (hcm : c ≤ 9223372036854775807) (hs : (Vm.shortest l).2.2 = 0) :
    Calls Try.prog 43 #[.slice A n c] w fun r w' => r = .returned (.tuple #[.int .i64 ((Vm.shortest l).1 : Int), .slice (if c = (Vm.shortest l).2.1 then A else A.map (·.add (Vm.shortest l).2.1)) (n - (Vm.shortest l).2.1) (c - (Vm.shortest l).2.1)]) ∧ Below w.heap.size w w' := by
  subst hn
  have hsh := Vi.shortest_calls l A c B w h hlc hcm
  obtain ⟨hb1, hb2, hb3⟩ := Vm.sh_facts l
  have hu := hb3 hs
  obtain ⟨i0, hi0⟩ := isByte_of Vi.info5
  have hsl := fun w' => sl_l (P := Try.prog) 22 5 i0 Try.underlying22 hi0 A l.length c ((Vm.shortest l).2.1 : Int) (Vm.shortest l).2.1 rfl hu w'
  generalize hz : Vm.shortest l = z at *
  obtain ⟨z1, z2, z3⟩ := z
  simp only at *
  subst hs
  obtain ⟨A6, hA6⟩ : ∃ A6, A6 = if c = z2 then A else A.map (·.add z2) := ⟨_, rfl⟩
  rw [← hA6] at hsl ⊢
  have Hsh := Lib.hid hsh
  clear hsh hz h hb3 hb2 hA6 hi0
  go_enter Try.func43, Try.ntmps43
  go_wp2_with fail
  refine Calls.mono Hsh.out ?_
  rintro e1 w1 ⟨rfl, hb⟩
  have HB := Lib.hid hb
  clear hb
  go_wp2_with fail
  refine Calls.mono (must_ok _ _) ?_
  rintro e2 w2 ⟨rfl, rfl⟩
  go_wp2_with fail
  refine Calls.mono (must_ok _ _) ?_
  rintro e2 w2 ⟨rfl, rfl⟩
  go_wp2_with fail
  refine CanT.region (fun _ => True) 1000 (.op 0 2 (.op 1 2 (.op 2 2 (.op 3 2 (.op 4 2 (.op 5 2 (.nil))))))) (by kernel_rfl) (by kernel_rfl) trivial ?_
  repeat (first | (refine CanT.skip rfl ?_ (fun K hK => ?_); (focus (go_simp; done)); go_simp; refine hK _ ?_; clear hK K) | (refine CanT.pur rfl ?_ ?_; (focus (go_simp; done)); refine ⟨?_, ?_, ?_⟩; rotate_left; (focus (intro w'; go_simp; rfl)); (focus (intro K hK; go_simp; refine hK _ ?_; clear hK K))))
  refine CanT.done ?_
  go_wp2_with fail
  go_ret2
  exact ⟨rfl, HB.out.drew⟩
end Dl
end Go.Proofs.Ytiofkhjpknfkgaa
/- The deferred call behind an operation that is taken off: what gave up is caught. -/
namespace Go.Proofs.Ytiofkhjpknfkgaa
namespace Dl
open Go.RowKit Ba Tm Dm Os_
set_option linter.unusedVariables false
/-- the frame's variables: the bytes, and the four results -/
def Fr (w : World) (N : Nat) (b : Value) (c : Bool) (p n : Int) (d r : Value) (th : Bool) (e : Int) : Prop :=
  Blk w N 22 #[b] ∧ Blk w (N + 1) 54 #[.bool c, .int .i64 p, .int .i64 n, d] ∧ Blk w (N + 1 + 1) 22 #[r] ∧ Blk w (N + 1 + 1 + 1) 4 #[.bool th] ∧ Blk w (N + 1 + 1 + 1 + 1) 26 #[.int .i64 e]
theorem Fr.below {w w' : World} {N : Nat} {b : Value} {c : Bool} {p n : Int} {d r : Value} {th : Bool} {e : Int} (h : Fr w N b c p n d r th e) (hb : Below w.heap.size w w') : Fr w' N b c p n d r th e := by
  obtain ⟨h1, h2, h3, h4, h5⟩ := h
  exact ⟨h1.below hb h1.lt, h2.below hb h2.lt, h3.below hb h3.lt, h4.below hb h4.lt, h5.below hb h5.lt⟩
section
variable {w : World} {N : Nat} {b : Value} {c : Bool} {p n : Int} {d r : Value} {th : Bool} {e : Int}
theorem Fr.cells (h : Fr w N b c p n d r th e) : w.cell? ⟨N, 0, none⟩ = some b ∧ (w.cell? ⟨N + 1, 0, none⟩ = some (.bool c) ∧ w.cell? ⟨N + 1, 1, none⟩ = some (.int .i64 p) ∧ w.cell? ⟨N + 1, 2, none⟩ = some (.int .i64 n) ∧ w.cell? ⟨N + 1, 3, none⟩ = some d ∧ w.rangeAt (N + 1) 0 [.bool c, .int .i64 p, .int .i64 n, d]) ∧ w.cell? ⟨N + 1 + 1, 0, none⟩ = some r ∧ w.cell? ⟨N + 1 + 1 + 1, 0, none⟩ = some (.bool th) ∧ w.cell? ⟨N + 1 + 1 + 1 + 1, 0, none⟩ = some (.int .i64 e) := by
  obtain ⟨h1, h2, h3, h4, h5⟩ := h
  refine ⟨by rw [Blk.cell h1]; rfl, ⟨by rw [Blk.cell h2]; rfl, by rw [Blk.cell h2]; rfl, by rw [Blk.cell h2]; rfl, by rw [Blk.cell h2]; rfl, fun j v hv => ?_⟩, by rw [Blk.cell h3]; rfl, by rw [Blk.cell h4]; rfl, by rw [Blk.cell h5]; rfl⟩
  rw [Blk.cell h2, Nat.zero_add]
  simpa using hv
theorem Fr.froz (h : Fr w N b c p n d r th e) : (∀ i, w.frozen? ⟨N, i, none⟩ = false) ∧ (∀ i, w.frozen? ⟨N + 1, i, none⟩ = false) ∧ (∀ i, w.frozen? ⟨N + 1 + 1, i, none⟩ = false) ∧ (∀ i, w.frozen? ⟨N + 1 + 1 + 1, i, none⟩ = false) ∧ ∀ i, w.frozen? ⟨N + 1 + 1 + 1 + 1, i, none⟩ = false :=
  ⟨Blk.frozen h.1, Blk.frozen h.2.1, Blk.frozen h.2.2.1, Blk.frozen h.2.2.2.1, Blk.frozen h.2.2.2.2⟩
theorem Fr.set2 (h : Fr w N b c p n d r th e) (r' : Value) : Fr (w.setCell ⟨N + 1 + 1, 0, none⟩ r') N b c p n d r' th e := by
  obtain ⟨h1, h2, h3, h4, h5⟩ := h
  exact ⟨h1.far (by first | (simp; done) | (simp; omega)) _, h2.far (by first | (simp; done) | (simp; omega)) _, Blk.set_ h3 0 _, h4.far (by first | (simp; done) | (simp; omega)) _, h5.far (by first | (simp; done) | (simp; omega)) _⟩
theorem Fr.set3 (h : Fr w N b c p n d r th e) (t : Bool) : Fr (w.setCell ⟨N + 1 + 1 + 1, 0, none⟩ (.bool t)) N b c p n d r t e := by
  obtain ⟨h1, h2, h3, h4, h5⟩ := h
  exact ⟨h1.far (by first | (simp; done) | (simp; omega)) _, h2.far (by first | (simp; done) | (simp; omega)) _, h3.far (by first | (simp; done) | (simp; omega)) _, Blk.set_ h4 0 _, h5.far (by first | (simp; done) | (simp; omega)) _⟩
theorem Fr.set4 (h : Fr w N b c p n d r th e) (x : Int) : Fr (w.setCell ⟨N + 1 + 1 + 1 + 1, 0, none⟩ (.int .i64 x)) N b c p n d r th x := by
  obtain ⟨h1, h2, h3, h4, h5⟩ := h
  exact ⟨h1.far (by first | (simp; done) | (simp; omega)) _, h2.far (by first | (simp; done) | (simp; omega)) _, h3.far (by first | (simp; done) | (simp; omega)) _, h4.far (by first | (simp; done) | (simp; omega)) _, Blk.set_ h5 0 _⟩
theorem Fr.setc (h : Fr w N b c p n d r th e) (c' : Bool) : Fr (w.setCell ⟨N + 1, 0, none⟩ (.bool c')) N b c' p n d r th e := by
  obtain ⟨h1, h2, h3, h4, h5⟩ := h
  exact ⟨h1.far (by first | (simp; done) | (simp; omega)) _, Blk.set_ h2 0 _, h3.far (by first | (simp; done) | (simp; omega)) _, h4.far (by first | (simp; done) | (simp; omega)) _, h5.far (by first | (simp; done) | (simp; omega)) _⟩
theorem Fr.setp (h : Fr w N b c p n d r th e) (p' : Int) : Fr (w.setCell ⟨N + 1, 1, none⟩ (.int .i64 p')) N b c p' n d r th e := by
  obtain ⟨h1, h2, h3, h4, h5⟩ := h
  exact ⟨h1.far (by first | (simp; done) | (simp; omega)) _, Blk.set_ h2 1 _, h3.far (by first | (simp; done) | (simp; omega)) _, h4.far (by first | (simp; done) | (simp; omega)) _, h5.far (by first | (simp; done) | (simp; omega)) _⟩
theorem Fr.setn (h : Fr w N b c p n d r th e) (n' : Int) : Fr (w.setCell ⟨N + 1, 2, none⟩ (.int .i64 n')) N b c p n' d r th e := by
  obtain ⟨h1, h2, h3, h4, h5⟩ := h
  exact ⟨h1.far (by first | (simp; done) | (simp; omega)) _, Blk.set_ h2 2 _, h3.far (by first | (simp; done) | (simp; omega)) _, h4.far (by first | (simp; done) | (simp; omega)) _, h5.far (by first | (simp; done) | (simp; omega)) _⟩
theorem Fr.setd (h : Fr w N b c p n d r th e) (d' : Value) : Fr (w.setCell ⟨N + 1, 3, none⟩ d') N b c p n d' r th e := by
  obtain ⟨h1, h2, h3, h4, h5⟩ := h
  exact ⟨h1.far (by first | (simp; done) | (simp; omega)) _, Blk.set_ h2 3 _, h3.far (by first | (simp; done) | (simp; omega)) _, h4.far (by first | (simp; done) | (simp; omega)) _, h5.far (by first | (simp; done) | (simp; omega)) _⟩
theorem Fr.row1 {w' : World} {c' : Bool} {p' n' : Int} {d' : Value} (h : Fr w N b c p n d r th e) (hB : Blk w' (N + 1) 54 #[.bool c', .int .i64 p', .int .i64 n', d']) (hg : w.grownBy w' (some (N + 1))) : Fr w' N b c' p' n' d' r th e := by
  obtain ⟨h1, h2, h3, h4, h5⟩ := h
  exact ⟨h1.grown hg (by first | (simp; done) | (simp; omega)), hB, h3.grown hg (by first | (simp; done) | (simp; omega)), h4.grown hg (by first | (simp; done) | (simp; omega)), h5.grown hg (by first | (simp; done) | (simp; omega))⟩
theorem Fr.lt (h : Fr w N b c p n d r th e) : N + 1 + 1 + 1 + 1 < w.heap.size := h.2.2.2.2.lt
end
theorem step_storeR {P : Program} {ops : Array Oper} {o : Oper} {a : Act} {w : World} {K : Act → World → Prop} {Q : Exit → Act → World → Prop} {R : Prop} (hgd : Region.wanted o (yielded ops a.tmps) = true) (ty : TypeId) (x y : Operand) (ho : o.op = .store ty x y)
    (g : Nat) (cells : Array Value) (hx : a.eval x = .pointer (some ⟨g, 0, none⟩)) (hy : a.eval y = .agg cells) (t : TypeId) (old : Array Value) (hg : Blk w g t old) (hi : (P.info? ty).map (·.size) = some cells.size) (hold : old.size = cells.size) (h1 : cells.all (·.oneCell') = true)
    (h : ∀ w', Blk w' g t cells → w.grownBy w' (some g) → K (a.put o.dst undef) w') : if Region.wanted o (yielded ops a.tmps) = true then Oper.wp P o a w K Q else R := by
  rw [if_pos hgd]
  exact wp_store_row ty x y ho g cells hx hy t old hg hi hold h1 (h _ (setRow_heap w g _ _ t _ hg) ⟨rfl, rfl, rfl, by simp, fun k hk hne => setRow_other w g k _ (fun e => hne (by rw [e]))⟩)
theorem loadVar_cell {P : Program} (w : World) (g : Nat) (t ty : TypeId) (v : Value) (hB : Blk w g t #[v]) (ha : (isAgg ty).run P w = .ok false w) : (loadVar ty ⟨g, 0, none⟩).run P w = .ok v w := by
  have hc : w.cell? ⟨g, 0, none⟩ = some v := by rw [Blk.cell hB]; rfl
  simp [loadVar, Sem.run_bind, ha, hc]
theorem take_results (tm : Array Value) (w : World) (N : Nat) (b : Value) (c : Bool) (p n : Int) (d r : Value) (th : Bool) (e : Int) (h : Fr w N b c p n d r th e)
    (h6 : tm.getD 6 undef = .pointer (some ⟨N + 1, 0, none⟩)) (h7 : tm.getD 7 undef = .pointer (some ⟨N + 1 + 1, 0, none⟩)) (h8 : tm.getD 8 undef = .pointer (some ⟨N + 1 + 1 + 1, 0, none⟩)) (h9 : tm.getD 9 undef = .pointer (some ⟨N + 1 + 1 + 1 + 1, 0, none⟩)) :
    (results Try.f30 tm).run Try.prog w = .ok (.tuple #[.agg #[.bool c, .int .i64 p, .int .i64 n, d], r, .bool th, .int .i64 e]) w := by
  obtain ⟨h1, h2, h3, h4, h5⟩ := h
  have l6 := run_loadVar_row (P := Try.prog) w (N + 1) 54 54 #[.bool c, .int .i64 p, .int .i64 n, d] (0, 0) _ h2 Try.underlying54 rfl (by kernel_rfl)
  have l7 := loadVar_cell (P := Try.prog) w (N + 1 + 1) 22 22 r h3 (by unfold isAgg; rw [Sem.run_bind, run_underlying Try.underlying22 w]; rfl)
  have l8 := loadVar_cell (P := Try.prog) w (N + 1 + 1 + 1) 4 4 (.bool th) h4 (by unfold isAgg; rw [Sem.run_bind, run_underlying Try.underlying4 w]; rfl)
  have l9 := loadVar_cell (P := Try.prog) w (N + 1 + 1 + 1 + 1) 26 26 (.int .i64 e) h5 (by unfold isAgg; rw [Sem.run_bind, run_underlying Try.underlying26 w]; rfl)
  simp only [Array.getD_eq_getD_getElem?] at h6 h7 h8 h9
  simp [results, Try.results30, asAddr, h6, h7, h8, h9, l6, l7, l8, l9, Sem.run_bind]
theorem rep13 : Array.replicate 13 undef = #[undef, undef, undef, undef, undef, undef, undef, undef, undef, undef, undef, undef, undef] := rfl
def frArgs (N : Nat) : Array Value := #[.pointer (some ⟨N, 0, none⟩), .pointer (some ⟨N + 1, 0, none⟩), .pointer (some ⟨N + 1 + 1, 0, none⟩), .pointer (some ⟨N + 1 + 1 + 1, 0, none⟩), .pointer (some ⟨N + 1 + 1 + 1 + 1, 0, none⟩)]
set_option maxHeartbeats 1000000 in
theorem catch_idle (N : Nat) (w : World) : CallsD Try.prog 41 (frArgs N) .returning w fun e u' w' => e = .returned (.tuple #[]) ∧ u' = .returning ∧ w' = w := by
  refine callsD_of_wpS Try.func41 rfl fun c₀ cs hu => ?_
  apply wpS_seq
  apply wpS_region
  simp [wpOpsS, go_sem, recoverD, hu, Try.ntmps41, Exit.thenS, frArgs, flt, rep13]
  refine wpS_of_wp ?_
  go_wp2
  cases c₀
  simp_all [bodyPostS, results, Try.results41]
set_option maxHeartbeats 2000000 in
theorem catch_fault (N : Nat) (bA : Option Addr) (bn bc : Nat) (c : Bool) (p n : Int) (d r : Value) (th : Bool) (e0 e : Int) (older : List PanicEntry) (w : World) (h : Fr w N (.slice bA bn bc) c p n d r th e0) :
    CallsD Try.prog 41 (frArgs N) (.panicking ({ v := flt e, recovered := false } :: older)) w fun x u' w' => x = .returned (.tuple #[]) ∧ u' = .panicking ({ v := flt e, recovered := true } :: older) ∧ Fr w' N (.slice bA bn bc) false 0 0 (.slice none 0 0) (.slice bA bn bc) false e ∧ Below N w w' := by
  refine callsD_of_wpS Try.func41 rfl fun c₀ cs hu => ?_
  apply wpS_seq
  apply wpS_region
  simp [wpOpsS, go_sem, recoverD, hu, Try.ntmps41, Exit.thenS, frArgs, flt, rep13]
  refine wpS_of_wp ?_
  have hta : ∀ w', (Instr.typeAssert (.iface 73 (.agg #[.int .i64 e])) 20 73 true).run Try.prog w' = .ok (.tuple #[.agg #[.int .i64 e], .bool true]) w' := fun w' => by simp [Instr.typeAssert, run_underlying Try.underlying73]
  have Hh := Lib.hid h
  clear h
  go_wp2_with fail
  have hF0 : Fr (w.alloc (.cells #[.int .i64 e] 73)).drew N (.slice bA bn bc) c p n d r th e0 := Hh.out.below (((Below.refl _ _).alloc (Nat.le_refl _) _).drew)
  have hG0 : Blk (w.alloc (.cells #[.int .i64 e] 73)).drew w.heap.size 73 #[.int .i64 e] := heap_alloc_new w _
  have hW0 : Below N w (w.alloc (.cells #[.int .i64 e] 73)).drew := ((Below.refl _ _).alloc (by have := Hh.out.lt; omega) _).drew
  have hlt : N + 1 + 1 + 1 + 1 < w.heap.size := Hh.out.lt
  have hFc : ∀ W : World, ∀ c' p' n' d' r' th' e', Fr W N (.slice bA bn bc) c' p' n' d' r' th' e' → Blk W w.heap.size 73 #[.int .i64 e] → W.cell? ⟨N, 0, none⟩ = some (.slice bA bn bc) ∧ W.cell? ⟨w.heap.size, 0, none⟩ = some (.int .i64 e) := fun W c' p' n' d' r' th' e' h1 h2 => ⟨h1.cells.1, by rw [Blk.cell h2]; rfl⟩
  refine CanT.region (fun W => W.cell? ⟨N, 0, none⟩ = some (.slice bA bn bc) ∧ W.cell? ⟨w.heap.size, 0, none⟩ = some (.int .i64 e)) 1000 (.op 0 2 (.op 1 1 (.op 2 2 (.op 3 1 (.op 4 0 (.op 5 0 (.op 6 0 (.op 7 0 (.nil))))))))) (by kernel_rfl) (by kernel_rfl) (hFc _ _ _ _ _ _ _ _ hF0 hG0) ?_
  have HFc := Lib.hid hFc
  generalize (w.alloc (.cells #[.int .i64 e] 73)).drew = W0 at *
  clear hFc
  repeat (first | (refine CanT.skip rfl ?_ (fun K hK => ?_); (focus (go_simp; done)); go_simp; refine hK _ ?_; clear hK K) | (refine CanT.pur rfl ?_ ?_; (focus (go_simp; done)); refine ⟨?_, ?_, ?_⟩; rotate_left; (focus (intro w'; go_simp; rfl)); (focus (intro K hK; go_simp; refine hK _ ?_; clear hK K))) | (refine CanT.cellG rfl ?_ (.slice bA bn bc) (.slice bA bn bc) ⟨N, 0, none⟩ (fun w1 h => h.1) ?_ (fun K hK => ?_); (focus (go_simp; done)); (focus (intro w' hc'; go_simp; (try rfl))); go_simp; refine hK _ ?_; clear hK K) | (refine CanT.cellG rfl ?_ (.int .i64 e) (.int .i64 e) ⟨w.heap.size, 0, none⟩ (fun w1 h => h.2) ?_ (fun K hK => ?_); (focus (go_simp; done)); (focus (intro w' hc'; go_simp; (try rfl))); go_simp; refine hK _ ?_; clear hK K))
  refine CanT.imp rfl (fun K hK => ?_)
  refine step_storeR ?_ 54 (.tmp 1) (.tmp 14) rfl (N + 1) #[.bool false, .int .i64 0, .int .i64 0, .slice none 0 0] rfl rfl 54 _ hF0.2.1 (by kernel_rfl) rfl (all_oneCell_toArray (opv_one (⟨false, 0, 0, []⟩, none, 0))) ?_
  focus (go_simp; done)
  intro W1 hB1 hg1
  have hF1 := hF0.row1 hB1 hg1
  have hG1 : Blk W1 w.heap.size 73 #[.int .i64 e] := hG0.grown hg1 (by first | (simp; done) | (simp; omega))
  have hW1 : Below N w W1 := hW0.trans (below_of_only hg1 (by omega) (by have := hF0.lt; omega))
  (try go_simp)
  refine hK.out _ _ (HFc.out _ _ _ _ _ _ _ _ hF1 hG1) ?_
  clear hK K hF0 hG0 hW0 hB1 hg1
  obtain ⟨c0, ⟨d0, d1, d2, d3, -⟩, c2, c3, c4⟩ := hF1.cells
  obtain ⟨z0, z1, z2, z3, z4⟩ := hF1.froz
  refine CanT.imp rfl (fun K hK => ?_)
  go_simp
  have hF2 := hF1.set2 (.slice bA bn bc)
  have hG2 := hG1.far (p := ⟨N + 1 + 1, 0, none⟩) (by first | (simp; done) | (simp; omega)) (.slice bA bn bc)
  have hW2 := hW1.setCell (p := ⟨N + 1 + 1, 0, none⟩) (by first | (simp; done) | (simp; omega)) (.slice bA bn bc)
  refine hK.out _ _ (HFc.out _ _ _ _ _ _ _ _ hF2 hG2) ?_
  clear hK K hF1 hG1 hW1 c0 d0 d1 d2 d3 c2 c3 c4 z0 z1 z2 z3 z4
  generalize W1.setCell ⟨N + 1 + 1, 0, none⟩ (.slice bA bn bc) = W2 at *
  obtain ⟨c0, ⟨d0, d1, d2, d3, -⟩, c2, c3, c4⟩ := hF2.cells
  obtain ⟨z0, z1, z2, z3, z4⟩ := hF2.froz
  refine CanT.imp rfl (fun K hK => ?_)
  go_simp
  have hF3 := hF2.set3 false
  have hG3 := hG2.far (p := ⟨N + 1 + 1 + 1, 0, none⟩) (by first | (simp; done) | (simp; omega)) (.bool false)
  have hW3 := hW2.setCell (p := ⟨N + 1 + 1 + 1, 0, none⟩) (by first | (simp; done) | (simp; omega)) (.bool false)
  refine hK.out _ _ (HFc.out _ _ _ _ _ _ _ _ hF3 hG3) ?_
  clear hK K hF2 hG2 hW2 c0 d0 d1 d2 d3 c2 c3 c4 z0 z1 z2 z3 z4
  generalize W2.setCell ⟨N + 1 + 1 + 1, 0, none⟩ (.bool false) = W3 at *
  obtain ⟨c0, ⟨d0, d1, d2, d3, -⟩, c2, c3, c4⟩ := hF3.cells
  obtain ⟨z0, z1, z2, z3, z4⟩ := hF3.froz
  refine CanT.imp rfl (fun K hK => ?_)
  go_simp
  have hF4 := hF3.set4 e
  have hG4 := hG3.far (p := ⟨N + 1 + 1 + 1 + 1, 0, none⟩) (by first | (simp; done) | (simp; omega)) (.int .i64 e)
  have hW4 := hW3.setCell (p := ⟨N + 1 + 1 + 1 + 1, 0, none⟩) (by first | (simp; done) | (simp; omega)) (.int .i64 e)
  refine hK.out _ _ (HFc.out _ _ _ _ _ _ _ _ hF4 hG4) ?_
  clear hK K hF3 hG3 hW3 c0 d0 d1 d2 d3 c2 c3 c4 z0 z1 z2 z3 z4
  generalize W3.setCell ⟨N + 1 + 1 + 1 + 1, 0, none⟩ (.int .i64 e) = W4 at *
  have HF := Lib.hid hF4
  have HW := Lib.hid hW4
  clear hF4 hW4 hG4 hta
  refine CanT.done ?_
  go_wp2_with fail
  have e1 := HF.out
  have e2 := HW.out
  cases c₀
  simp_all [bodyPostS, results, Try.results41]
end Dl
end Go.Proofs.Ytiofkhjpknfkgaa
/- The operation that bytes begin with, case by case: plain words. -/
namespace Go.Proofs.Ytiofkhjpknfkgaa
namespace Dm
open Tm
set_option linter.unusedVariables false
/-- an operation that is taken off: it is not there, with an error or without one -/
def takeE (l : List UInt8) (old room : Int) : Int := if (one l old).2.2 ≠ 0 then (one l old).2.2 else if (one l old).2.1 = 0 then 0 else 5
def takeOk (l : List UInt8) (old room : Int) : Prop := (one l old).2.2 = 0 ∧ (one l old).2.1 ≠ 0 ∧ makes (one l old).1 ≤ room
theorem take_not {l : List UInt8} {old room : Int} {e : Int} (h : one l old = (none_, 0, e)) : ¬ takeOk l old room ∧ takeE l old room = e := by
  unfold takeOk takeE
  rw [h]
  refine ⟨fun h => h.2.1 rfl, ?_⟩
  by_cases he : e = 0
  · simp [he]
  · simp [he]
theorem take_long {l : List UInt8} {old room : Int} {x : O} {u : Nat} (h : one l old = (x, u, 0)) (hu : u ≠ 0) (hm : ¬ makes x ≤ room) : ¬ takeOk l old room ∧ takeE l old room = 5 := by
  unfold takeOk takeE
  rw [h]
  exact ⟨fun h => hm h.2.2, by simp [hu]⟩
theorem take_yes {l : List UInt8} {old room : Int} {x : O} {u : Nat} (h : one l old = (x, u, 0)) (hu : u ≠ 0) (hm : makes x ≤ room) : takeOk l old room := by
  unfold takeOk
  rw [h]
  exact ⟨rfl, hu, hm⟩
section
variable (c : UInt8) (t : List UInt8) (old : Int)
theorem one_nil : one [] old = (none_, 0, 0) := rfl
theorem one_big (h : ¬ c.toNat ≤ 1) : one (c :: t) old = (none_, 0, 4) := by
  show (if 1 < c.toNat then _ else _) = _
  rw [if_pos (by omega)]
theorem one_bad1 (h : c.toNat ≤ 1) (hs : (Vm.shortest t).2.2 ≠ 0) : one (c :: t) old = (none_, 0, if (Vm.shortest t).2.2 = 4 then 4 else 0) := by
  show (if 1 < c.toNat then _ else _) = _
  rw [if_neg (by omega)]
  by_cases h4 : (Vm.shortest t).2.2 = 4
  · rw [if_pos h4, if_pos h4]
  · rw [if_neg h4, if_pos hs, if_neg h4]
theorem one_litE (h : c.toNat = 0) (hs : (Vm.shortest t).2.2 = 0) : one (c :: t) old =
    if 65536 < (Vm.shortest t).1 then (none_, 0, 5) else if (Vm.shortest t).1 = 0 then (none_, 0, 4) else if (t.drop (Vm.shortest t).2.1).length < (Vm.shortest t).1 then (none_, 0, 0) else
      (lit ((t.drop (Vm.shortest t).2.1).take (Vm.shortest t).1), 1 + (Vm.shortest t).2.1 + (Vm.shortest t).1, 0) := by
  show (if 1 < c.toNat then _ else _) = _
  rw [if_neg (by omega), if_neg (by omega), if_neg (by omega), if_pos h]
theorem one_cp (h : c.toNat = 1) (hs : (Vm.shortest t).2.2 = 0) : one (c :: t) old =
    if (Vm.shortest (t.drop (Vm.shortest t).2.1)).2.2 = 4 then (none_, 0, 4) else if (Vm.shortest (t.drop (Vm.shortest t).2.1)).2.2 ≠ 0 then (none_, 0, 0) else
      if may (cp ((Vm.shortest t).1 : Int) ((Vm.shortest (t.drop (Vm.shortest t).2.1)).1 : Int)) old then (cp ((Vm.shortest t).1 : Int) ((Vm.shortest (t.drop (Vm.shortest t).2.1)).1 : Int), 1 + (Vm.shortest t).2.1 + (Vm.shortest (t.drop (Vm.shortest t).2.1)).2.1, 0) else (none_, 0, 4) := by
  show (if 1 < c.toNat then _ else _) = _
  rw [if_neg (by omega), if_neg (by omega), if_neg (by omega), if_neg (by omega)]
theorem one_bad2 (h : c.toNat = 1) (hs : (Vm.shortest t).2.2 = 0) (h2 : (Vm.shortest (t.drop (Vm.shortest t).2.1)).2.2 ≠ 0) : one (c :: t) old = (none_, 0, if (Vm.shortest (t.drop (Vm.shortest t).2.1)).2.2 = 4 then 4 else 0) := by
  rw [one_cp c t old h hs]
  by_cases h4 : (Vm.shortest (t.drop (Vm.shortest t).2.1)).2.2 = 4
  · rw [if_pos h4, if_pos h4]
  · rw [if_neg h4, if_pos h2, if_neg h4]
end
end Dm
end Go.Proofs.Ytiofkhjpknfkgaa

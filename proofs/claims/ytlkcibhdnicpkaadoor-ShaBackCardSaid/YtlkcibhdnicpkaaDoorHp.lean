/- A sum's digits are read, by the program. -/
import Derived.Test.YtlkcibhdnicpkaaDoorProg
import Derived.Test.YtlkcibhdnicpkaaDoorSbase
import Derived.Test.YtlkcibhdnicpkaaDoorHmath
import Derived.Laws.Externs
import Derived.Laws.RangeString
namespace Go.Proofs.YtlkcibhdnicpkaaDoor
namespace Hx
open Go.RowKit Ba Sm
set_option linter.unusedVariables false
theorem ext_idx (args : Array Value) (w : World) : (callFunc 62 args).run Tryd.prog w = ((Extern.BytealgIndexByte.indexByte args).run Tryd.prog w).andThen fun v w' => .ok (.value v) w' :=
  run_callFunc_extern Tryd.func62 (by kernel_rfl) (by kernel_rfl) (by kernel_rfl) (by kernel_rfl) args w
theorem idx_calls (c : UInt8) (w : World) : Calls Tryd.prog 45 #[.string (S dg), .int .u8 (c.toNat : Int)] w fun e w' => e = .returned (.int .i64 (Lib.indexByte dg c)) ∧ w = w' := by
  have h1 := Lib.run_indexByteString (P := Tryd.prog) (S dg) (c.toNat : Int)
  have e1 : ((c.toNat : Int).toNat.toUInt8) = c := by simp
  rw [e1] at h1
  have e2 : (S dg).data.toList = dg := rfl
  rw [e2] at h1
  have h2 := ext_idx
  generalize Lib.indexByte dg c = ib at *
  generalize S dg = sd at *
  clear e1 e2
  go_enter Tryd.func45, Tryd.ntmps45
  go_wp2
  go_ret
  exact ⟨rfl, rfl⟩

/-- the walk over a text stands at this place -/
def setIter (w : World) (h : Nat) (s : ByteArray) (pos : Nat) : World := { w with heap := w.heap.setIfInBounds h (.stringIter s pos) }
section
variable {P : Program}
theorem setIter_size (w : World) (h : Nat) (s : ByteArray) (pos : Nat) : (setIter w h s pos).heap.size = w.heap.size := by simp [setIter]
theorem setIter_at (w : World) (h : Nat) (s : ByteArray) (pos : Nat) (hh : h < w.heap.size) : (setIter w h s pos).heap[h]? = some (.stringIter s pos) := by
  simp [setIter, hh]
theorem setIter_grown (w : World) (h : Nat) (s : ByteArray) (pos : Nat) : w.grownBy (setIter w h s pos) (some h) :=
  ⟨rfl, rfl, rfl, by simp [setIter], fun i hi hne => by
    have : h ≠ i := fun e => hne (by rw [e])
    simp [setIter, Array.getElem?_setIfInBounds_ne this]⟩
theorem run_next_at (w : World) (h : Nat) (s : ByteArray) (pos : Nat) (ty : TypeId) (hh : w.heap[h]? = some (.stringIter s pos)) (hp : pos < s.size) :
    (Instr.next (.pointer (some ⟨h, 0, none⟩)) true ty).run P w = .ok (.tuple #[.bool true, .int .i64 pos, .int .i32 ((Utf8.decode s pos).1 : Int)]) (setIter w h s (pos + (Utf8.decode s pos).2)) := by
  simp [Instr.next, getObj, setObj, Sem.run_bind, Sem.run, hh, Result.andThen, hp, setIter, goInt]
theorem run_next_stop (w : World) (h : Nat) (s : ByteArray) (pos : Nat) (ty : TypeId) (hh : w.heap[h]? = some (.stringIter s pos)) (hp : ¬ pos < s.size) :
    (Instr.next (.pointer (some ⟨h, 0, none⟩)) true ty).run P w = .ok (.tuple #[.bool false]) w := by
  simp [Instr.next, getObj, Sem.run, hh, hp]
end
end Hx
end Go.Proofs.YtlkcibhdnicpkaaDoor

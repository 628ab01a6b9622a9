/- Several texts of one proof, one behind the other. -/
import Derived.Test.YtnhjiioiejpbgaaDoorAbsxe
import Derived.Lib.Strings
import Derived.Lib.Slices
import Derived.Lib.Walk
import Derived.Lib.Bytealg
section
/- A function of Go's library that finds a byte in a text. -/
namespace Go.Proofs.Abs
open Go
def IdxB (P : Program) (f : FuncId) : Prop :=
  (∃ fn, P.funcs[f]? = some fn ∧ (fn.name == "runtime.NumGoroutine") = false ∧ fn.body.isSome = true) ∧
  ∀ (s : ByteArray) (c : Int) (w : World), Calls P f #[.string s, .int .u8 c] w fun e w' => e = .returned (.int .i64 (Lib.indexByte s.data.toList c.toNat.toUInt8)) ∧ w' = w
end Go.Proofs.Abs
end
section
/- A row of one's own that grows. -/
namespace Go.Proofs.Abs
open Go
set_option linter.unusedVariables false
set_option linter.unusedSectionVars false
set_option linter.unusedSimpArgs false
section
variable {P : Program} {w : World} {α : Type} {e : α → D} {z : Nat} {g : Bool}
end
section
variable {P : Program} {aops os : List AOper} {draw : Bool} {N k c : Nat} {l : List (Nat × AV)} {H H' : AHeap} {A : List Tk} {Q : AAct → AHeap → Nat → Prop}
variable {x y : Arg} {gd : Option (Nat × Bool)} {af : List Nat} {t : Nat} {α : Type} {e : α → D} {z : Nat} {g : Bool} {xs ys zs : List α} {l0 n : Nat}
end
end Go.Proofs.Abs
end
section
/- Rows of one's own, handed to slices.Delete and slices.Insert; parts of their elements. -/
namespace Go.Proofs.Abs
open Go
set_option linter.unusedVariables false
set_option linter.unusedSectionVars false
set_option linter.unusedSimpArgs false
/-- what comes of a row that is written where it lies -/
def RowTo (w w' : World) (b : Nat) (c c' : Array Value) : Prop := w'.heap = (w.setRow b c').heap ∧ w'.os = w.os ∧ w'.output = w.output ∧ w'.tape = w.tape ∧ c'.size = c.size
def HasFn (P : Program) (f : FuncId) : Prop := ∃ fn, P.funcs[f]? = some fn ∧ (fn.name == "runtime.NumGoroutine") = false ∧ fn.body.isSome = true
def DelB (P : Program) (f : FuncId) (z : Nat) : Prop := HasFn P f ∧
  (∀ (b n cap i j : Nat) (c : Array Value) (et : TypeId) (w : World), w.heap[b]? = some (.cells c et (0, 0)) → i ≤ j → j ≤ n → n ≤ cap → cap * z ≤ c.size → (∀ m v, m < n * z → c[m]? = some v → v.oneCell' = true) → n ≤ 140737488355328 →
    Calls P f #[.slice (some ⟨b, 0, none⟩) n cap, .int .i64 i, .int .i64 j] w fun e w' => ∃ c' : Array Value, e = .returned (.slice (some ⟨b, 0, none⟩) (n - (j - i)) cap) ∧ RowTo w w' b c c' ∧
      (∀ m, m < i * z → c'[m]? = c[m]?) ∧ ∀ m, m < (n - j) * z → c'[i * z + m]? = c[j * z + m]?) ∧
  ∀ w : World, Calls P f #[.slice none 0 0, .int .i64 0, .int .i64 0] w fun e w' => e = .returned (.slice none 0 0) ∧ w' = w
section
variable {P : Program} {f : FuncId} {α : Type} {e : α → D} {z : Nat} {g : Bool}
/-- what slices.Insert gives of one element -/
def InsB (P : Program) (f : FuncId) (z bt : Nat) : Prop := HasFn P f ∧
  (∀ (b n cap i vb vo vc : Nat) (c : Array Value) (et : TypeId) (new : List Value) (w : World), w.heap[b]? = some (.cells c et (0, 0)) → i ≤ n → n ≤ cap → cap * z ≤ c.size → (∀ m v, m < n * z → c[m]? = some v → v.oneCell' = true) →
    vb ≠ b → new.length = z → (∀ k v, new[k]? = some v → w.cell? ⟨vb, vo + k, none⟩ = some v ∧ v.oneCell' = true) → (n + 1) * 2 * bt ≤ 281474976710656 →
    Calls P f #[.slice (some ⟨b, 0, none⟩) n cap, .int .i64 i, .slice (some ⟨vb, vo, none⟩) 1 vc] w fun e w' => ∃ (c' : Array Value) (nb ncap : Nat), e = .returned (.slice (some ⟨nb, 0, none⟩) (n + 1) ncap) ∧
      ((nb = b ∧ ncap = cap ∧ n + 1 ≤ cap ∧ RowTo w w' b c c') ∨ (nb = w.heap.size ∧ (∃ et2, NewBlk w w' c' et2 (0, 0)) ∧ n + 1 ≤ ncap ∧ ncap * z ≤ c'.size)) ∧
      (∀ m, m < i * z → c'[m]? = c[m]?) ∧ (∀ m, m < z → c'[i * z + m]? = new[m]?) ∧ ∀ m, m < (n - i) * z → c'[(i + 1) * z + m]? = c[i * z + m]?) ∧
  ∀ (vb vo vc : Nat) (new : List Value) (w : World), new.length = z → (∀ k v, new[k]? = some v → w.cell? ⟨vb, vo + k, none⟩ = some v ∧ v.oneCell' = true) → 
    Calls P f #[.slice none 0 0, .int .i64 0, .slice (some ⟨vb, vo, none⟩) 1 vc] w fun e w' => ∃ (c' : Array Value) (et : TypeId) (ncap : Nat), e = .returned (.slice (some ⟨w.heap.size, 0, none⟩) 1 ncap) ∧ NewBlk w w' c' et (0, 0) ∧ 1 ≤ ncap ∧ ncap * z ≤ c'.size ∧ ∀ m, m < z → c'[m]? = new[m]?
end
section
variable {P : Program} {α : Type} {e : α → D} {z : Nat} {g : Bool}
section
variable [Inhabited α]
end
end
section
variable {P : Program} {aops os : List AOper} {draw : Bool} {N k c : Nat} {l : List (Nat × AV)} {H H' : AHeap} {A : List Tk} {Q : AAct → AHeap → Nat → Prop}
variable {gd : Option (Nat × Bool)} {af : List Nat} {t : Nat}
variable {α : Type} [Inhabited α] {e : α → D} {z : Nat} {g : Bool} {xs ys : List α} {l0 i j : Nat} {x y : Arg}
end
end Go.Proofs.Abs
end

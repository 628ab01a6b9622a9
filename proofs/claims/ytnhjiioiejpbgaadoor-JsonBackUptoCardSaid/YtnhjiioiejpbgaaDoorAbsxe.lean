/- Several texts of one proof, one behind the other. -/
import Derived.Test.YtnhjiioiejpbgaaDoorAbsxd
section
/- Values of types that have themselves within: one layer is read at a time, the layers below stay data. -/
namespace Go.Proofs.Abs
open Go
set_option linter.unusedVariables false
set_option linter.unusedSectionVars false
set_option linter.unusedSimpArgs false
/-- data that is a struct of z cells -/
def EncD (z : Nat) (d : D) : Prop := d.isAgg = true ∧ d.cells.length = z ∧ ∀ c ∈ d.cells, c.isAgg = false
instance (z : Nat) (d : D) : Decidable (EncD z d) := inferInstanceAs (Decidable (_ ∧ _ ∧ _))
def RT (z : Nat) : Type := {d : D // EncD z d}
def rtE {z : Nat} (r : RT z) : D := r.1
theorem rtE_ok {z : Nat} : EncOK (rtE (z := z)) z true := ⟨fun r => r.2.2.1, fun r => r.2.2.2, fun r => r.2.1⟩
def RT.of {α : Type} {e : α → D} {z : Nat} (h : EncOK e z true) (x : α) : RT z := ⟨e x, h.ag x, h.len x, h.sc x⟩
instance (z : Nat) : Inhabited (RT z) := ⟨⟨.agg (List.replicate z (.bool false)), rfl, by simp [D.cells], fun c hc => by
  simp only [D.cells, List.mem_replicate] at hc; rw [hc.2]; rfl⟩⟩
/-! ### reading -/
def decI (k : IntKind) : D → Option Int
  | .int k' n => if k' = k then some n else none
  | _ => none
theorem decI_eq {k : IntKind} {d : D} {n : Int} (h : decI k d = some n) : d = .int k n := by
  cases d <;> simp only [decI] at h <;> first | cases h | skip
  split at h
  · rename_i hk; subst hk; cases h; rfl
  · cases h
theorem decI_put (k : IntKind) (n : Int) : decI k (.int k n) = some n := by simp [decI]
def decB : D → Option Bool
  | .bool b => some b
  | _ => none
def decS : D → Option (List UInt8)
  | .str s => some s
  | _ => none
theorem decS_eq {d : D} {s : List UInt8} (h : decS d = some s) : d = .str s := by
  cases d <;> simp only [decS] at h <;> first | (cases h; rfl) | cases h
def decY : D → Option UInt8
  | .int .u8 n => if 0 ≤ n ∧ n < 256 then some (u8 n) else none
  | _ => none
def decM {α : Type} (f : D → Option α) : List D → Option (List α)
  | [] => some []
  | d :: r => match f d, decM f r with
    | some a, some l => some (a :: l)
    | _, _ => none
theorem decM_eq {α : Type} {f : D → Option α} {e : α → D} (hf : ∀ d a, f d = some a → d = e a) : ∀ {l : List D} {xs : List α}, decM f l = some xs → l = xs.map e
  | [], xs, h => by cases h; rfl
  | d :: r, xs, h => by
    simp only [decM] at h
    split at h
    · rename_i a l h1 h2
      cases h
      rw [hf d a h1, decM_eq hf h2]; rfl
    · cases h
theorem decM_put {α : Type} {f : D → Option α} {e : α → D} (hf : ∀ a, f (e a) = some a) : ∀ xs : List α, decM f (xs.map e) = some xs
  | [] => rfl
  | x :: r => by simp only [List.map_cons, decM, hf, decM_put hf r]
def decL {α : Type} (f : D → Option α) : D → Option (List α)
  | .sl l => decM f l
  | _ => none
theorem decL_eq {α : Type} {f : D → Option α} {e : α → D} (hf : ∀ d a, f d = some a → d = e a) {d : D} {xs : List α} (h : decL f d = some xs) : d = .sl (xs.map e) := by
  cases d <;> simp only [decL] at h <;> first | (rw [decM_eq hf h]; done) | cases h
theorem decL_put {α : Type} {f : D → Option α} {e : α → D} (hf : ∀ a, f (e a) = some a) (xs : List α) : decL f (.sl (xs.map e)) = some xs := decM_put hf xs
def decR (z : Nat) (d : D) : Option (RT z) := if h : EncD z d then some ⟨d, h⟩ else none
theorem decR_eq {z : Nat} (d : D) (r : RT z) (h : decR z d = some r) : d = rtE r := by
  unfold decR at h
  split at h
  · cases h; rfl
  · cases h
theorem decR_put {z : Nat} (r : RT z) : decR z (rtE r) = some r := by
  unfold decR
  rw [dif_pos (show EncD z (rtE r) from r.2)]; rfl
section
variable {P : Program} {aops os : List AOper} {draw : Bool} {N k c : Nat} {l : List (Nat × AV)} {H H' : AHeap} {A : List Tk} {Q : AAct → AHeap → Nat → Prop}
variable {g : Option (Nat × Bool)} {af : List Nat} {t : Nat} {α : Type} {e : α → D} {z : Nat}
theorem RegV.iadE [Inhabited α] {x i : Arg} {y : AV} {xs : List α} {kd : IntKind} {n : Int} {w : D} (hg : gOn g (us l ⟨some t, .iaddr x i z, g, af⟩) = some true) (hx : evA (us l ⟨some t, .iaddr x i z, g, af⟩) x = some y) (hy : toSl y = some (xs.map e))
    (hi : evA (us l ⟨some t, .iaddr x i z, g, af⟩) i = some (.d (.int kd n))) (hz : ∀ a, (e a).cells.length = z) (hb : 0 ≤ n ∧ n < (xs.length : Int)) (hw : e (rd xs n) = w) (hd : Nat.blt t N = true)
    (hn : RegV P aops draw N (k + 1) os c ((t, .cp w 0) :: l) H (⟨[], true⟩ :: A) Q) : RegV P aops draw N k (⟨some t, .iaddr x i z, g, af⟩ :: os) c l H A Q := by
  subst hw
  exact RegV.iad hg hx hy hi hz hb hd hn
end
end Go.Proofs.Abs
end

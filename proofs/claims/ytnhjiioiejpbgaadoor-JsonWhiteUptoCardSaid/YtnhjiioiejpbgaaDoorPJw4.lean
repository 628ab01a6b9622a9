/- JsonWhite: the text of a value, with white. -/
import Derived.Test.YtnhjiioiejpbgaaDoorPJw3
set_option linter.unusedSimpArgs false
namespace Go.Proofs.Abs
open Go
set_option linter.unusedVariables false
set_option maxRecDepth 100000
def wd (k : Int) : List UInt8 := if k = 1 then [110, 117, 108, 108] else if k = 2 then [102, 97, 108, 115, 101] else [116, 114, 117, 101]
/-- an item's text: key, if it has one, and value -/
def itW (g : List UInt8) (x : Option (List UInt8) × TJson × List UInt8) : List UInt8 := match x.1 with
  | some k => g ++ quo k ++ g ++ [58] ++ x.2.2
  | none => x.2.2
def itsW (g : List UInt8) : List (Option (List UInt8) × TJson × List UInt8) → List UInt8
  | [] => []
  | x :: r => itW g x ++ r.flatMap fun y => 44 :: itW g y
/-- the text of a right value, with white wherever it may stand -/
inductive Sp (g : List UInt8) : Nat → TJson → List UInt8 → Prop
  | lit (h : Nat) (k : Int) (hk : k = 1 ∨ k = 2 ∨ k = 3) : Sp g h ⟨k, [], [], []⟩ ((g ++ wd k) ++ g)
  | num (h : Nat) (t : List UInt8) (ht : NumT t) : Sp g h ⟨4, t, [], []⟩ ((g ++ t) ++ g)
  | str (h : Nat) (t : List UInt8) (ht : Lib.validD t = true) : Sp g h ⟨5, t, [], []⟩ ((g ++ quo t) ++ g)
  | arr (h : Nat) (ps : List (Option (List UInt8) × TJson × List UInt8)) (hn : ∀ p ∈ ps, p.1 = none) (hu : ∀ p ∈ ps, Sp g h p.2.1 p.2.2) : Sp g (h + 1) ⟨6, [], ps.map (fun p => RT.of TJson.ok p.2.1), []⟩ (((g ++ [91] ++ itsW g ps ++ g) ++ [93]) ++ g)
  | obj (h : Nat) (ks : List (List UInt8)) (ps : List (Option (List UInt8) × TJson × List UInt8)) (hk : ps.map (·.1) = ks.map some) (h3 : ks.length ≤ 300) (hn : ks.Nodup) (hv : ∀ k ∈ ks, Lib.validD k = true) (hu : ∀ p ∈ ps, Sp g h p.2.1 p.2.2) : Sp g (h + 1) ⟨7, [], ps.map (fun p => RT.of TJson.ok p.2.1), ks⟩ (((g ++ [123] ++ itsW g ps ++ g) ++ [125]) ++ g)
/-- what is neither an array nor an object, as the reference prints it -/
theorem print_leaf (v : TJson) (K : Nat) (t : List UInt8) (hr : f348 K v 0 = some true) (hp : f355 K v = some t) : f354 K v = some t := by
  unfold f354 f347
  show Option.bind (Option.bind (f348 K v 0) _) _ = _
  rw [hr, Option.bind_some, Option.bind_some]
  show cond false _ (Option.bind (f355 K v) _) = _
  rw [cond_false, hp]
  rfl
theorem right_lit (K : Nat) (k : Int) (hk : k = 1 ∨ k = 2 ∨ k = 3) : f348 (K + 1) ⟨k, [], [], []⟩ 0 = some true := by
  rcases hk with rfl | rfl | rfl <;> rfl
theorem right_num (K : Nat) (t : List UInt8) (ht : NumT t) (hb : t.length ≤ 20000) (hK : t.length + 2 ≤ K) : f348 (K + 1) ⟨4, t, [], []⟩ 0 = some true := by
  rw [f348]
  unfold f348_s
  show cond (decide ((4 : Int) = 1)) _ (cond (decide ((4 : Int) = 2)) _ (f348_j32 K ⟨4, t, [], []⟩ 0 (f348 K) (decide ((4 : Int) = 3)))) = _
  rw [cdn (by decide), cdn (by decide), decide_eq_false (by decide)]
  unfold f348_j32
  rw [cond_false]
  show cond (decide ((4 : Int) = 4)) (Option.bind (f349 K t) _) _ = _
  rw [cdp rfl, numeral_true K t hb hK ht]
  rfl
theorem right_str (K : Nat) (t : List UInt8) (ht : Lib.validD t = true) (hb : t.length ≤ 20000) : f348 (K + 1) ⟨5, t, [], []⟩ 0 = some true := by
  have g1 : f351 K t = some true := by unfold f351; rw [gdp (by omega), ht]
  rw [f348]
  unfold f348_s
  show cond (decide ((5 : Int) = 1)) _ (cond (decide ((5 : Int) = 2)) _ (f348_j32 K ⟨5, t, [], []⟩ 0 (f348 K) (decide ((5 : Int) = 3)))) = _
  rw [cdn (by decide), cdn (by decide), decide_eq_false (by decide)]
  unfold f348_j32
  rw [cond_false]
  show cond (decide ((5 : Int) = 4)) _ (cond (decide ((5 : Int) = 5)) (Option.bind (f351 K t) _) _) = _
  rw [cdn (by decide), cdp rfl, g1]
  rfl
end Go.Proofs.Abs

/- What compact operations come to. -/
import Derived.Test.YtgimibhacllcpaaAbs4
namespace Go.Proofs.Abs
open Go

structure Out where
  r : AV
  hin : AHeap
  hout : AHeap
  side : Prop

def lkH : AHeap → Nat → Option AObj
  | [], _ => none
  | (k, v) :: r, t => bif Nat.beq k t then some v else lkH r t

def AV.scalar : AV → Bool
  | .d x => !x.isAgg
  | .agg _ => false
  | .tup _ => false
  | .any => false
  | _ => true
/-- the cells in which a value is kept -/
def cellsAV : AV → Option (List AV)
  | .d x => some (x.cells.map .d)
  | .agg l => bif l.all AV.scalar then some l else none
  | .tup _ => none
  | .any => none
  | x => some [x]
def toD : AV → Option D
  | .d x => bif x.isAgg then none else some x
  | .nils => some (.sl [])
  | .ap _ _ xs => some (.sl xs)
  | .win xs n => some (.sl (xs.take n))
  | .dn xs => some (.sl xs)
  | _ => none
def toDs : List AV → Option (List D)
  | [] => some []
  | x :: r => match toD x, toDs r with
    | some a, some l => some (a :: l)
    | _, _ => none
def mkAgg (l : List AV) : AV := match toDs l with
  | some ds => .d (.agg ds)
  | none => .agg l
def upd : List AV → Nat → List AV → List AV
  | L, _, [] => L
  | [], _, _ => []
  | _ :: L, 0, c :: cs => c :: upd L 0 cs
  | x :: L, n + 1, cs => x :: upd L n cs
/-- a slice's data -/
def toSl : AV → Option (List D)
  | .d (.sl l) => some l
  | .nils => some []
  | .ap _ _ xs => some xs
  | .win xs n => some (xs.take n)
  | .dn xs => some xs
  | _ => none

def loadA (H : AHeap) (x : AV) (z : Nat) (agg : Bool) : Option Out :=
  match x with
  | .cp d off =>
    bif agg then
      (bif Nat.beq off 0 && Nat.beq d.cells.length z then some ⟨.d d, [], [], d.isAgg = true⟩
       else some ⟨.d (.agg ((d.cells.drop off).take z)), [], [], d.isAgg = true ∧ off + z ≤ d.cells.length⟩)
    else match d.cells.drop off with
      | c :: _ => some ⟨.d c, [], [], True⟩
      | [] => none
  | .ptr l off => match lkH H l with
    | some (.cells L) =>
      bif agg then some ⟨mkAgg ((L.drop off).take z), [(l, .cells L)], [(l, .cells L)], off + z ≤ L.length⟩
      else (match L.drop off with
        | c :: _ => some ⟨c, [(l, .cells L)], [(l, .cells L)], True⟩
        | [] => none)
    | _ => none
  | _ => none

theorem postSame {S : Seal} {i : Emb} {H : AHeap} {w : World} {r : AV} {v : Value} (hv : V S i r v) (hh : HeapRel S i H w) : Post S i H w r H v w :=
  ⟨S, i, hv, hh, fun _ _ h => h, .refl _ _ _ _, fun _ _ h => .inl h⟩

theorem OpT.pure {P : Program} {ev : Operand → Option AV} {o : Oper} {H : AHeap} {r : AV} (hd : ∀ c, o.op ≠ .defer c)
    (h : ∀ S i w ρ, (∀ x a, ev x = some a → V S i a (ρ x)) → HeapRel S i H w → ∃ v, (execOp ρ o).run P w = .ok (.value v) w ∧ V S i r v) : OpT P ev o H r H := by
  refine ⟨hd, fun S i w ρ hev hh _ => ?_⟩
  obtain ⟨v, hr, hv⟩ := h S i w ρ hev hh
  rw [hr]
  exact postSame hv hh

theorem addr_add (b o n : Nat) : (⟨b, o, none⟩ : Addr).add n = ⟨b, o + n, none⟩ := by
  unfold Addr.add
  split
  · rename_i h; subst h; rfl
  · rfl

theorem dInt {S : Seal} {k : IntKind} {n : Int} {v : Value} (h : DV S (.int k n) v) : v = .int k n := by cases h; rfl
theorem dBool {S : Seal} {b : Bool} {v : Value} (h : DV S (.bool b) v) : v = .bool b := by cases h; rfl
theorem dStr {S : Seal} {s : List UInt8} {v : Value} (h : DV S (.str s) v) : v = .string ⟨s.toArray⟩ := by cases h; rfl
theorem vD {S : Seal} {i : Emb} {x : D} {v : Value} (h : V S i (.d x) v) : DV S x v := by cases h; assumption
theorem vInt {S : Seal} {i : Emb} {k : IntKind} {n : Int} {v : Value} (h : V S i (.d (.int k n)) v) : v = .int k n := dInt (vD h)
theorem vBool {S : Seal} {i : Emb} {b : Bool} {v : Value} (h : V S i (.d (.bool b)) v) : v = .bool b := dBool (vD h)
theorem vStr {S : Seal} {i : Emb} {s : List UInt8} {v : Value} (h : V S i (.d (.str s)) v) : v = .string ⟨s.toArray⟩ := dStr (vD h)

theorem dv_take {S : Seal} {xs : List D} {a : Option Addr} {cap n : Nat} (h : DV S (.sl xs) (.slice a xs.length cap)) (hn : n ≤ xs.length) : DV S (.sl (xs.take n)) (.slice a n cap) := by
  cases h with
  | nilsl =>
    have : n = 0 := by simpa using hn
    subst this
    exact .nilsl
  | emp =>
    have : n = 0 := by simpa using hn
    subst this
    exact .emp
  | sl f hz hg hc hs h =>
    have e : flat xs = flat (xs.take n) ++ flat (xs.drop n) := by
      unfold flat
      rw [← List.flatMap_append, List.take_append_drop]
    have hlen : (xs.take n).length = n := by simp [Nat.min_eq_left hn]
    have hle : ∀ {m}, m < (flat (xs.take n)).length → m < (flat xs).length := fun hm => by rw [e, List.length_append]; omega
    have := DV.sl (S := S) (l := xs.take n) (cap := cap) f (fun d hd => hz d (List.mem_of_mem_take hd)) (fun c hc => hg c (by rw [e]; exact List.mem_append.2 (.inl hc))) (by rw [hlen]; omega)
      (fun m hm => hs m (hle hm)) (fun m hm => by
        have h2 := h m (hle hm)
        have h3 : (flat xs)[m]'(hle hm) = (flat (xs.take n))[m] := by
          simp only [e]
          rw [List.getElem_append_left hm]
        rw [h3] at h2
        exact h2)
    rw [hlen] at this
    exact this

/-- a slice that is data: where it lies -/
theorem toSl_ok {S : Seal} {i : Emb} {x : AV} {l : List D} {v : Value} (hx : toSl x = some l) (h : V S i x v) : DV S (.sl l) v := by
  cases x <;> simp only [toSl] at hx <;> try cases hx
  case d y =>
    cases y <;> simp at hx
    subst hx; exact vD h
  case ap => cases h <;> first | exact .nilsl | assumption
  case win => cases h with | win h hn => exact dv_take h hn
  case dn => cases h with | dn h => exact h
  case nils => cases h; exact .nilsl
theorem dSlice {S : Seal} {l : List D} {v : Value} (h : DV S (.sl l) v) : (l = [] ∧ v = .slice none 0 0) ∨
    (∃ b o cap z, ∃ f : Nat → Value, v = .slice (some ⟨b, o, none⟩) l.length cap ∧ (∀ d ∈ l, d.cells.length = z) ∧ (∀ c ∈ flat l, c.isAgg = false) ∧ l.length ≤ cap ∧
      (∀ m, m < (flat l).length → S.cell ⟨b, o + m, none⟩ = some (f m)) ∧ ∀ m (hm : m < (flat l).length), DV S (flat l)[m] (f m)) ∨ (l = [] ∧ ∃ a, v = .slice (some a) 0 0) := by
  cases h with
  | nilsl => exact .inl ⟨rfl, rfl⟩
  | sl f hz hg hc hs h => exact .inr (.inl ⟨_, _, _, _, f, rfl, hz, hg, hc, hs, h⟩)
  | emp => exact .inr (.inr ⟨rfl, _, rfl⟩)

/-- integers' operations -/
def bitsA (op : BinOp) (k : IntKind) (x y : Int) : Int :=
  let a := BitVec.ofInt k.bits x
  let b := BitVec.ofInt k.bits y
  match op with
  | .and => k.wrap (a &&& b).toNat
  | .or => k.wrap (a ||| b).toNat
  | .xor => k.wrap (a ^^^ b).toNat
  | _ => k.wrap (a &&& ~~~b).toNat

def binA (op : BinOp) (x y : D) : Option (D × Prop) :=
  match x, y with
  | .int k a, .int k' b =>
    (match op with
     | .shl => some (.int k (k.wrap (a * 2 ^ (min b.toNat k.bits))), 0 ≤ b)
     | .shr => some (.int k (a.fdiv (2 ^ (min b.toNat k.bits))), 0 ≤ b)
     | _ => bif decide (k = k') then (match op with
       | .add => some (.int k (k.wrap (a + b)), True)
       | .sub => some (.int k (k.wrap (a - b)), True)
       | .mul => some (.int k (k.wrap (a * b)), True)
       | .quo => some (.int k (k.wrap (a.tdiv b)), b ≠ 0)
       | .rem => some (.int k (a.tmod b), b ≠ 0)
       | .and => some (.int k (bitsA .and k a b), True)
       | .or => some (.int k (bitsA .or k a b), True)
       | .xor => some (.int k (bitsA .xor k a b), True)
       | .andNot => some (.int k (bitsA .andNot k a b), True)
       | .eql => some (.bool (decide (a = b)), True)
       | .neq => some (.bool (decide (a ≠ b)), True)
       | .lss => some (.bool (decide (a < b)), True)
       | .leq => some (.bool (decide (a ≤ b)), True)
       | .gtr => some (.bool (decide (a > b)), True)
       | .geq => some (.bool (decide (a ≥ b)), True)
       | _ => none) else none)
  | .str a, .str b =>
    (match op with
     | .add => some (.str (a ++ b), a.length + b.length ≤ 9223372036854775807)
     | .eql => some (.bool (decide (a = b)), True)
     | .neq => some (.bool (decide (a ≠ b)), True)
     | .lss => some (.bool (Op.bytesLess a b), True)
     | .leq => some (.bool (Op.bytesLess a b || decide (a = b)), True)
     | .gtr => some (.bool (!(Op.bytesLess a b || decide (a = b))), True)
     | .geq => some (.bool (!(Op.bytesLess a b)), True)
     | _ => none)
  | _, _ => none

theorem ba_toList (a : List UInt8) : ByteArray.toList ⟨a.toArray⟩ = a := by rw [ByteArray.toList_eq]
theorem ba_add (a b : List UInt8) : (⟨a.toArray⟩ ++ ⟨b.toArray⟩ : ByteArray) = ⟨(a ++ b).toArray⟩ := by
  apply ByteArray.ext
  simp [ByteArray.data_append]

theorem binA_ok {P : Program} {w : World} {op : BinOp} {t : TypeId} {x y r : D} {side : Prop} {S : Seal} {u v : Value} (h : binA op x y = some (r, side)) (hs : side) (hx : DV S x u) (hy : DV S y v) :
    ∃ q, (binOp op t u v).run P w = .ok q w ∧ DV S r q := by
  unfold binA at h
  split at h
  · rename_i k a k' b
    cases dInt hx; cases dInt hy
    split at h
    · cases h
      refine ⟨_, ?_, .int⟩
      simp only [binOp, Op.shift]
      rw [if_neg (by omega)]; rfl
    · cases h
      refine ⟨_, ?_, .int⟩
      simp only [binOp, Op.shift]
      rw [if_neg (by omega)]; rfl
    · rename_i h1 h2
      cases hk : decide (k = k') with
      | false => rw [hk] at h; cases h
      | true =>
        rw [hk] at h
        have := of_decide_eq_true hk
        subst this
        cases op <;> simp only [cond_true] at h <;> (try cases h) <;> first
          | exact absurd rfl h1
          | exact absurd rfl h2
          | (refine ⟨_, ?_, .int⟩
             simp only [binOp, ne_eq, not_true_eq_false, if_false]
             first
               | rfl
               | (simp only [Op.intDiv, if_neg hs]; rfl))
          | (refine ⟨_, ?_, .bool⟩
             simp only [binOp, ne_eq, not_true_eq_false, if_false]; rfl)
          | skip
        · refine ⟨.bool (a != b), ?_, ?_⟩
          · simp only [binOp, ne_eq, not_true_eq_false, if_false]; rfl
          · have : (a != b) = decide (a ≠ b) := by by_cases hab : a = b <;> simp [hab]
            rw [this]; exact .bool
  · rename_i a b
    cases dStr hx; cases dStr hy
    have e1 := ba_toList a
    have e2 := ba_toList b
    have ebe : (a == b) = decide (a = b) := by
      by_cases hab : a = b <;> simp [hab]
    cases op <;> simp only at h <;> (try cases h) <;> simp only [binOp, Op.stringOp, e1, e2, ebe]
    · refine ⟨.string ⟨(a ++ b).toArray⟩, ?_, .str⟩
      have hm : IntKind.i64.max = 9223372036854775807 := by decide +kernel
      have h1 : (⟨a.toArray⟩ : ByteArray).size = a.length := by simp [ByteArray.size]
      have h2 : (⟨b.toArray⟩ : ByteArray).size = b.length := by simp [ByteArray.size]
      rw [if_neg (by rw [h1, h2, hm]; omega), ba_add]; rfl
    · exact ⟨_, rfl, .bool⟩
    · refine ⟨_, rfl, ?_⟩
      have : (!decide (a = b)) = decide (a ≠ b) := by simp
      rw [this]; exact .bool
    · exact ⟨_, rfl, .bool⟩
    · exact ⟨_, rfl, .bool⟩
    · exact ⟨_, rfl, .bool⟩
    · exact ⟨_, rfl, .bool⟩
  · cases h
end Go.Proofs.Abs

/- The evaluation of compact operations, and that it is the machine's. -/
import Derived.Test.YtgimibhacllcpaaAbs5
import Derived.Laws.Cells
import Derived.Laws.CopyRow
import Derived.Laws.Strings
namespace Go.Proofs.Abs
open Go

def at' (l : List D) (i : Nat) : D := l.getD i .nilp
def byteD (b : UInt8) : D := .int .u8 b.toNat
abbrev bytesD (l : List UInt8) : D := .sl (l.map byteD)
def byteOf : D → UInt8
  | .int _ n => UInt8.ofNat n.toNat
  | _ => 0
def isByte : D → Prop
  | .int .u8 n => 0 ≤ n ∧ n < 256
  | _ => False

/-- what is appended: its elements -/
def toSrc : AV → Option (List D)
  | .d (.str s) => some (s.map byteD)
  | x => toSl x

/-- is it nil? (of one kind) -/
def nil0 : AV → Option Bool
  | .nils => some true
  | .d (.sl (_ :: _)) => some false
  | .sl _ _ _ _ _ => some false
  | .win _ _ => some false
  | .dn _ => some false
  | _ => none
def nil1 : AV → Option Bool
  | .d .nilp => some true
  | .ptr _ _ => some false
  | .cp _ _ => some false
  | _ => none
def nil2 : AV → Option Bool
  | .d .nilf => some true
  | .d (.fn _) => some false
  | .fn _ _ => some false
  | .lf _ => some false
  | _ => none
def nilOf (c : Nat) (x : AV) : Option Bool := match c with
  | 0 => nil0 x
  | 1 => nil1 x
  | 2 => nil2 x
  | _ => none
def nilEq (c : Nat) (x y : AV) : Option Bool := match nilOf c x, nilOf c y with
  | some true, some b => some b
  | some b, some true => some b
  | _, _ => none

def allAV (ev : Arg → Option AV) : List Arg → Option (List AV)
  | [] => some []
  | a :: r => match ev a, allAV ev r with
    | some x, some l => some (x :: l)
    | _, _ => none
def mmL (isMax : Bool) : IntKind × Int → List AV → Option (IntKind × Int)
  | acc, [] => some acc
  | (k, n), .d (.int _ m) :: r => mmL isMax (k, bif isMax then max n m else min n m) r
  | _, _ => none
def mmA (isMax : Bool) : List AV → Option (IntKind × Int)
  | .d (.int k n) :: r => mmL isMax (k, n) r
  | _ => none
/-- a struct's parts are laid into its cells -/
def buildF (ev : Arg → Option AV) : List AV → List (Nat × Nat × Arg) → Option (List AV × Prop)
  | L, [] => some (L, True)
  | L, (off, sz, a) :: r => match (ev a).bind cellsAV with
    | some cs => (match buildF ev (upd L off cs) r with
      | some (L', s) => some (L', (cs.length = sz ∧ off + sz ≤ L.length) ∧ s)
      | none => none)
    | none => none

/-- an element: what it says -/
def toE : AV → Option D
  | .d x => some x
  | .nils => some (.sl [])
  | .ap _ _ xs => some (.sl xs)
  | .win xs n => some (.sl (xs.take n))
  | .dn xs => some (.sl xs)
  | _ => none
def toEs : List AV → Option (List D)
  | [] => some []
  | x :: r => match toE x, toEs r with
    | some a, some l => some (a :: l)
    | _, _ => none
def cellsAll : List AV → Option (List AV)
  | [] => some []
  | x :: r => match cellsAV x, cellsAll r with
    | some a, some l => some (a ++ l)
    | _, _ => none
def natListBeq : List Nat → List Nat → Bool
  | [], [] => true
  | a :: x, b :: y => bif Nat.beq a b then natListBeq x y else false
  | _, _ => false
/-- a zero element -/
def zElem : List D → D
  | [x] => x
  | l => .agg l
def oInt (ev : Arg → Option AV) (dflt : Int) : Option Arg → Option Int
  | none => some dflt
  | some a => match ev a with
    | some (.d (.int _ n)) => some n
    | _ => none

/-- zero cells as they lie in memory -/
def zAV : D → AV
  | .sl [] => .nils
  | x => .d x

def out (r : AV) (side : Prop := True) : Option Out := some ⟨r, [], [], side⟩

def evOp (own : Bool) (nl : Nat) (ev : Arg → Option AV) (H : AHeap) : AOp → Option Out
  | .mv x => (ev x).bind fun r => out r
  | .pick c a b => match ev c with
    | some (.d (.bool c)) => (bif c then ev a else ev b).bind fun r => out r
    | _ => none
  | .bin op x y => match ev x, ev y with
    | some (.d a), some (.d b) => (binA op a b).bind fun (r, s) => out (.d r) s
    | _, _ => none
  | .beq neg x y => match ev x, ev y with
    | some (.d (.bool a)), some (.d (.bool b)) => out (.d (.bool (bif neg then !(a == b) else a == b)))
    | _, _ => none
  | .nileq c neg x y => match ev x, ev y with
    | some a, some b => (nilEq c a b).bind fun r => out (.d (.bool (bif neg then !r else r)))
    | _, _ => none
  | .un op x => match op, ev x with
    | .not, some (.d (.bool b)) => out (.d (.bool (!b)))
    | .neg, some (.d (.int k n)) => out (.d (.int k (k.wrap (0 - n))))
    | .xor, some (.d (.int k n)) => out (.d (.int k (bitsA .xor k (if k.signed then -1 else k.max) n)))
    | _, _ => none
  | .cvi k x => match ev x with
    | some (.d (.int _ n)) => out (.d (.int k (k.wrap n)))
    | _ => none
  | .bs2s x => match (ev x).bind toSl with
    | some l => out (.d (.str (l.map byteOf))) (∀ d ∈ l, isByte d)
    | none => none
  | .ext x i => match ev x with
    | some (.tup l) => (l[i]?).bind fun r => out r
    | _ => none
  | .faddr x o => match ev x with
    | some (.cp d off) => out (.cp d (off + o))
    | some (.ptr l off) => out (.ptr l (off + o))
    | _ => none
  | .fld x o z g => match ev x with
    | some (.d (.agg cs)) => bif g then out (.d (.agg ((cs.drop o).take z))) (o + z ≤ cs.length) else (match cs.drop o with
      | c :: _ => out (.d c)
      | [] => none)
    | _ => none
  | .idx x i => match ev x, ev i with
    | some (.d (.str s)), some (.d (.int _ n)) => out (.d (.int .u8 (s.getD n.toNat 0).toNat)) (0 ≤ n ∧ n < s.length)
    | _, _ => none
  | .iaddr x i z => match ev x, ev i with
    | some (.sl l off len _ z'), some (.d (.int _ n)) => bif Nat.beq z z' then out (.ptr l (off + n.toNat * z)) (0 ≤ n ∧ n < len) else none
    | some y, some (.d (.int _ n)) => (toSl y).bind fun l => out (.cp (at' l n.toNat) 0) (0 ≤ n ∧ n < l.length ∧ (at' l n.toNat).cells.length = z)
    | _, _ => none
  | .len x => match ev x with
    | some (.sl _ _ n _ _) => out (.d (.int .i64 n))
    | some y => (toSl y).bind fun l => out (.d (.int .i64 l.length))
    | _ => none
  | .slen x => match ev x with
    | some (.d (.str s)) => out (.d (.int .i64 s.length))
    | _ => none
  | .cap x => match ev x with
    | some (.sl _ _ _ c _) => out (.d (.int .i64 c))
    | some (.win xs _) => out (.d (.int .i64 xs.length))
    | some .nils => out (.d (.int .i64 0))
    | _ => none
  | .mm b xs => match (allAV ev xs).bind (mmA b) with
    | some (k, n) => out (.d (.int k n))
    | none => none
  | .load x z g => (ev x).bind fun y => loadA H y z g
  | .nilchk x => match ev x with
    | some (.ptr l o) => out (.ptr l o)
    | some (.cp d o) => out (.cp d o)
    | some (.fn f cs) => out (.fn f cs)
    | some (.d (.fn f)) => out (.d (.fn f))
    | some (.lf l) => out (.lf l)
    | _ => none
  | .mkfn f cs => match allAV ev cs with
    | some [] => out (.d (.fn f))
    | some l => out (.fn f l)
    | none => none
  | .alloc zz => some ⟨.ptr nl 0, [], [(nl, .cells (zz.map zAV))], True⟩
  | .box x => match (ev x).bind cellsAV with
    | some cs => some ⟨.ptr nl 0, [], [(nl, .cells cs)], True⟩
    | none => none
  | .store x v z => match ev x, (ev v).bind cellsAV with
    | some (.ptr l off), some cs => (match lkH H l with
      | some (.cells L) => some ⟨.any, [(l, .cells L)], [(l, .cells (upd L off cs))], cs.length = z ∧ off + z ≤ L.length ∧ cs.all AV.scalar = true⟩
      | _ => none)
    | _, _ => none
  | .app x y z by' zz => match ev x, (ev y).bind toSrc with
    | some .nils, some ys =>
      bif own then some ⟨.ap nl z ys, [], [(nl, .tok (ys.length * z))], zz.length = z ∧ 0 < by' ∧ ys.length * by' ≤ 281474976710656 ∧ ∀ d ∈ ys, d.cells.length = z⟩
      else some ⟨.d (.sl ys), [], [], zz.length = z ∧ 0 < by' ∧ ys.length * by' ≤ 281474976710656 ∧ ∀ d ∈ ys, d.cells.length = z⟩
    | some (.ap l z' xs), some ys => bif Nat.beq z z' then (match lkH H l with
      | some (.tok n) => some ⟨.ap nl z (xs ++ ys), [(l, .tok n)], [(nl, .tok ((xs ++ ys).length * z))],
          nl ≠ l ∧ n = xs.length * z ∧ zz.length = z ∧ 0 < by' ∧ (xs.length + ys.length) * 2 * by' ≤ 281474976710656 ∧ ∀ d ∈ ys, d.cells.length = z⟩
      | _ => none) else none
    | some (.sl l 0 n cap z'), some ys => bif Nat.beq z z' then (match lkH H l with
      | some (.cells L) => some ⟨.sl l 0 (n + ys.length) cap z, [(l, .cells L)], [(l, .cells (upd L (n * z) ((flat ys).map .d)))],
          zz.length = z ∧ 0 < by' ∧ n + ys.length ≤ cap ∧ cap * z ≤ L.length ∧ ∀ d ∈ ys, d.cells.length = z⟩
      | _ => none) else none
    | _, _ => none
  | .bslice n z zz ps => bif natListBeq (ps.map (·.1)) (List.range n) then (match allAV ev (ps.map (·.2)) with
      | some vs => bif own then (match cellsAll vs with
          | some cs => some ⟨.sl nl 0 n n z, [], [(nl, .cells cs)], zz.length = z ∧ n * z ≤ 16777216 ∧ ∀ x ∈ vs, (cellsAV x).map (·.length) = some z⟩
          | none => none)
        else (match toEs vs with
          | some ds => some ⟨.d (.sl ds), [], [], zz.length = z ∧ n * z ≤ 16777216 ∧ ∀ d ∈ ds, d.cells.length = z⟩
          | none => none)
      | none => none) else none
  | .mksl l c z by' zz => match ev l, ev c with
    | some (.d (.int _ ln)), some (.d (.int _ cn)) =>
      bif own then some ⟨.sl nl 0 ln.toNat cn.toNat z, [], [(nl, .cells (List.replicate cn.toNat (zz.map zAV)).flatten)], 0 ≤ ln ∧ ln ≤ cn ∧ cn * by' ≤ 281474976710656 ∧ 0 < by' ∧ zz.length = z⟩
      else some ⟨.d (.sl (List.replicate ln.toNat (zElem zz))), [], [], 0 ≤ ln ∧ ln ≤ cn ∧ cn * by' ≤ 281474976710656 ∧ 0 < by' ∧ zz.length = z ∧ 0 < z⟩
    | _, _ => none
  | .ssl x lo hi => match ev x, oInt ev 0 lo with
    | some (.d (.str s)), some l => (oInt ev s.length hi).bind fun h => out (.d (.str ((s.take h.toNat).drop l.toNat))) (0 ≤ l ∧ l ≤ h ∧ h ≤ s.length)
    | _, _ => none
  | .slc x lo hi none z => match ev x, oInt ev 0 lo with
    | some (.sl b off len cap z'), some l => bif Nat.beq z z' then (oInt ev len hi).bind fun h =>
        out (.sl b (off + l.toNat * z) (h.toNat - l.toNat) (cap - l.toNat) z) (0 ≤ l ∧ l ≤ h ∧ h ≤ cap ∧ (l = 0 ∨ l < cap)) else none
    | some (.win xs n), some l => (match lo with
      | none => (oInt ev n hi).bind fun h => out (.win xs h.toNat) (0 ≤ h ∧ h ≤ xs.length)
      | some _ => (oInt ev ((xs.take n).length : Nat) hi).bind fun h => out (.d (.sl (((xs.take n).take h.toNat).drop l.toNat))) (0 ≤ l ∧ l ≤ h ∧ h ≤ (xs.take n).length ∧ ∀ d ∈ xs.take n, d.cells.length = z))
    | some y, some l => (toSl y).bind fun ys => (oInt ev ys.length hi).bind fun h => out (.d (.sl ((ys.take h.toNat).drop l.toNat))) (0 ≤ l ∧ l ≤ h ∧ h ≤ ys.length ∧ ∀ d ∈ ys, d.cells.length = z)
    | _, _ => none
  | .build zz ps => match buildF ev (zz.map zAV) ps with
    | some (L, s) => out (mkAgg L) s
    | none => none
  | .s2bs x => match ev x with
    | some (.d (.str s)) => out (.d (bytesD s))
    | _ => none
  | .bs2bs x => match ev x with
    | some (.sl l 0 n cap 1) => (match lkH H l with
      | some (.cells L) => (match toDs L with
        | some ds => some ⟨.d (.sl ds), [(l, .cells L)], [], n = ds.length ∧ n ≤ cap⟩
        | none => none)
      | _ => none)
    | _ => none
  | _ => none

section
variable {P : Program} {args : List (Nat × AV)} {H : AHeap} {o : Oper} {own : Bool} {nl : Nat} {q : Out}

/-- the concrete value of an argument -/
theorem argV {S : Seal} {i : Emb} {ρ : Operand → Value} (hev : ∀ x a, evL args x = some a → V S i a (ρ x)) {x : Operand} {a : Arg} (ha : argA x = some a) {y : AV} (hy : evA args a = some y) :
    V S i y (ρ x) := hev x y ((evA_of ha).trans hy)

theorem ok_mv {x : Operand} (hop : o.op = .move x ∨ o.op = .assign x) (h : evOp own nl (evA args) H (compOp P o.op) = some q) : OpT P (evL args) o q.hin q.r q.hout := by
  have h' : evOp own nl (evA args) H (match argA x with | some a => .mv a | none => .bad) = some q := by
    rcases hop with hop | hop <;> rw [hop] at h <;> exact h
  cases hx : argA x with
  | none => rw [hx] at h'; cases h'
  | some a =>
    rw [hx] at h'
    simp only [evOp, Option.bind_eq_some_iff, out] at h'
    obtain ⟨r, hr, h'⟩ := h'
    cases h'
    refine .pure (by rcases hop with hop | hop <;> simp [hop]) fun S i w ρ hev hh => ⟨ρ x, ?_, argV hev hx hr⟩
    rcases hop with hop | hop <;> simp [execOp, hop]

theorem ok_pick {c a b : Operand} (hop : o.op = .pick c a b) (h : evOp own nl (evA args) H (compOp P o.op) = some q) : OpT P (evL args) o q.hin q.r q.hout := by
  rw [hop] at h
  simp only [compOp] at h
  cases hc : argA c <;> cases ha : argA a <;> cases hb : argA b <;> rw [hc, ha, hb] at h <;> try cases h
  rename_i c' a' b'
  simp only [evOp] at h
  split at h
  · rename_i cb hcb
    simp only [Option.bind_eq_some_iff, out] at h
    obtain ⟨r, hr, h⟩ := h
    cases h
    refine .pure (by simp [hop]) fun S i w ρ hev hh => ⟨if cb then ρ a else ρ b, ?_, ?_⟩
    · have := vBool (argV hev hc hcb)
      simp [execOp, hop, this, asBool]
    · cases cb
      · exact argV hev hb hr
      · exact argV hev ha hr
  · cases h

theorem run_eqGuard {op : BinOp} {t : TypeId} {x y : Operand} {u v : Value} {w : World} (h : ∀ a b, ¬ (u = .agg a ∧ v = .agg b)) (h' : ¬ (u = .nilIface ∧ v = .nilIface)) :
    (eqGuard op t x y u v).run P w = .ok () w := by
  cases op <;> try rfl
  all_goals (cases u <;> cases v <;> first | rfl | exact absurd ⟨rfl, rfl⟩ h' | exact absurd ⟨rfl, rfl⟩ (h _ _))

def eqA (d : TypeDesc) (u v : Value) : Option Bool :=
  match d, u, v with
  | .bool, .bool a, .bool b => some (a == b)
  | .pointer _, .pointer none, .pointer b => some b.isNone
  | .pointer _, .pointer (some _), .pointer none => some false
  | .slice _, .slice none _ _, .slice b _ _ => some b.isNone
  | .slice _, .slice (some _) _ _, .slice none _ _ => some false
  | .map _ _, .map none, .map b => some b.isNone
  | .map _ _, .map (some _), .map none => some false
  | .func _ _ _, .nilFunc, .nilFunc => some true
  | .func _ _ _, .nilFunc, .func _ _ _ => some false
  | .func _ _ _, .func _ _ _, .nilFunc => some false
  | _, _, _ => none
theorem run_equalIn {k : Nat} {t : TypeId} {d : TypeDesc} {w : World} {u v : Value} {b : Bool} (hd : P.underlying t = some d) (h : eqA d u v = some b) :
    (Op.equalIn (k + 1) t u v).run P w = .ok b w := by
  have hu : (underlying t).run P w = .ok d w := by simp [underlying, hd]
  rw [Op.equalIn]
  simp only [Sem.run_bind, hu, Result.andThen_ok]
  unfold eqA at h
  split at h <;> cases h
  all_goals rfl
theorem run_equal {t : TypeId} {d : TypeDesc} {w : World} {u v : Value} {b : Bool} (hd : P.underlying t = some d) (h : eqA d u v = some b) :
    (Op.equal t u v).run P w = .ok b w := run_equalIn (k := 9999) hd h

theorem eqA_plain {d : TypeDesc} {u v : Value} {r : Bool} (h : eqA d u v = some r) : (∀ a b, ¬ (u = .agg a ∧ v = .agg b)) ∧ ¬ (u = .nilIface ∧ v = .nilIface) := by
  unfold eqA at h
  split at h <;> first | cases h | skip
  all_goals exact ⟨(by intro a b hab; cases hab.1), (by intro hab; cases hab.1)⟩
theorem eqA_bin {d : TypeDesc} {t : TypeId} {u v : Value} {r : Bool} {w : World} (h : eqA d u v = some r) (hq : (Op.equal t u v).run P w = .ok r w) :
    (binOp .eql t u v).run P w = .ok (.bool r) w ∧ (binOp .neq t u v).run P w = .ok (.bool !r) w := by
  unfold eqA at h
  split at h <;> first | cases h | skip
  all_goals (constructor <;> simp only [binOp, Sem.run_bind, hq, Result.andThen_ok] <;> rfl)

theorem nil0_ok {S : Seal} {i : Emb} {a : AV} {u : Value} (h : V S i a u) : (nil0 a = some true → u = .slice none 0 0) ∧ (nil0 a = some false → ∃ b n c, u = .slice (some b) n c) := by
  constructor
  · intro hn
    unfold nil0 at hn
    split at hn <;> cases hn
    cases h; rfl
  · intro hn
    unfold nil0 at hn
    split at hn <;> cases hn
    · rcases dSlice (vD h) with ⟨h0, _⟩ | ⟨b, o, cap, z, f, hv, _⟩ | ⟨h0, _⟩
      · cases h0
      · exact ⟨_, _, _, hv⟩
      · cases h0
    · cases h; exact ⟨_, _, _, rfl⟩
    · cases h; exact ⟨_, _, _, rfl⟩
    · cases h; exact ⟨_, _, _, rfl⟩
theorem nil1_ok {S : Seal} {i : Emb} {a : AV} {u : Value} (h : V S i a u) : (nil1 a = some true → u = .pointer none) ∧ (nil1 a = some false → ∃ b, u = .pointer (some b)) := by
  constructor
  · intro hn
    unfold nil1 at hn
    split at hn <;> cases hn
    cases vD h; rfl
  · intro hn
    unfold nil1 at hn
    split at hn <;> cases hn <;> cases h <;> exact ⟨_, rfl⟩
theorem nil2_ok {S : Seal} {i : Emb} {a : AV} {u : Value} (h : V S i a u) : (nil2 a = some true → u = .nilFunc) ∧ (nil2 a = some false → ∃ f x y, u = .func f x y) := by
  constructor
  · intro hn
    unfold nil2 at hn
    split at hn <;> cases hn
    cases vD h; rfl
  · intro hn
    unfold nil2 at hn
    split at hn <;> cases hn
    · cases vD h; exact ⟨_, _, _, rfl⟩
    · cases h; exact ⟨_, _, _, rfl⟩
    · cases h; exact ⟨_, _, _, rfl⟩
theorem nilEq_ok {c : Nat} {a b : AV} {r : Bool} (h : nilEq c a b = some r) : (nilOf c a = some true ∧ nilOf c b = some r) ∨ (nilOf c a = some r ∧ nilOf c b = some true) := by
  unfold nilEq at h
  split at h
  · cases h; exact .inl ⟨by assumption, by assumption⟩
  · cases h; exact .inr ⟨by assumption, by assumption⟩
  · cases h
theorem nilEq0 {S : Seal} {i : Emb} {a b : AV} {u v : Value} {r : Bool} {e : TypeId} (h : nilEq 0 a b = some r) (ha : V S i a u) (hb : V S i b v) : eqA (.slice e) u v = some r := by
  rcases nilEq_ok h with ⟨h1, h2⟩ | ⟨h1, h2⟩
  · have e1 := (nil0_ok ha).1 h1; subst e1
    cases r
    · obtain ⟨_, _, _, e2⟩ := (nil0_ok hb).2 h2; subst e2; rfl
    · have e2 := (nil0_ok hb).1 h2; subst e2; rfl
  · have e1 := (nil0_ok hb).1 h2; subst e1
    cases r
    · obtain ⟨_, _, _, e2⟩ := (nil0_ok ha).2 h1; subst e2; rfl
    · have e2 := (nil0_ok ha).1 h1; subst e2; rfl
theorem nilEq1 {S : Seal} {i : Emb} {a b : AV} {u v : Value} {r : Bool} {e : TypeId} (h : nilEq 1 a b = some r) (ha : V S i a u) (hb : V S i b v) : eqA (.pointer e) u v = some r := by
  rcases nilEq_ok h with ⟨h1, h2⟩ | ⟨h1, h2⟩
  · have e1 := (nil1_ok ha).1 h1; subst e1
    cases r
    · obtain ⟨_, e2⟩ := (nil1_ok hb).2 h2; subst e2; rfl
    · have e2 := (nil1_ok hb).1 h2; subst e2; rfl
  · have e1 := (nil1_ok hb).1 h2; subst e1
    cases r
    · obtain ⟨_, e2⟩ := (nil1_ok ha).2 h1; subst e2; rfl
    · have e2 := (nil1_ok ha).1 h1; subst e2; rfl
theorem nilEq2 {S : Seal} {i : Emb} {a b : AV} {u v : Value} {r : Bool} {x y : Array TypeId} {z : Bool} (h : nilEq 2 a b = some r) (ha : V S i a u) (hb : V S i b v) : eqA (.func x y z) u v = some r := by
  rcases nilEq_ok h with ⟨h1, h2⟩ | ⟨h1, h2⟩
  · have e1 := (nil2_ok ha).1 h1; subst e1
    cases r
    · obtain ⟨_, _, _, e2⟩ := (nil2_ok hb).2 h2; subst e2; rfl
    · have e2 := (nil2_ok hb).1 h2; subst e2; rfl
  · have e1 := (nil2_ok hb).1 h2; subst e1
    cases r
    · obtain ⟨_, _, _, e2⟩ := (nil2_ok ha).2 h1; subst e2; rfl
    · have e2 := (nil2_ok ha).1 h1; subst e2; rfl

theorem und_some {t : TypeId} {d : TypeDesc} (h : und P t = d) (hd : d ≠ .invalid) : P.underlying t = some d := by
  unfold und at h
  cases hu : P.underlying t with
  | none => rw [hu] at h; exact absurd h.symm hd
  | some e => rw [hu] at h; simp at h; rw [h]

theorem ok_bin {op : BinOp} {t : TypeId} {x y : Operand} {t' : TypeId} (hop : o.op = .binOp op t x y t') (h : evOp own nl (evA args) H (compOp P o.op) = some q) (hs : q.side) :
    OpT P (evL args) o q.hin q.r q.hout := by
  rw [hop] at h
  simp only [compOp] at h
  cases hx : argA x <;> cases hy : argA y <;> rw [hx, hy] at h <;> try cases h
  rename_i x' y'
  have key : ∀ (u v : D), evA args x' = some (.d u) → evA args y' = some (.d v) → ∀ r s, binA op u v = some (r, s) → s → q = ⟨.d r, [], [], s⟩ → OpT P (evL args) o q.hin q.r q.hout := by
    intro u v hu hv r s hb hs hq
    subst hq
    refine .pure (by simp [hop]) fun S i w ρ hev hh => ?_
    have h1 := vD (argV hev hx hu)
    have h2 := vD (argV hev hy hv)
    obtain ⟨z, hz, hz'⟩ := binA_ok (P := P) (w := w) (t := t) hb hs h1 h2
    refine ⟨z, ?_, .d hz'⟩
    have hg : (eqGuard op t x y (ρ x) (ρ y)).run P w = .ok () w := by
      refine run_eqGuard ?_ ?_
      · rintro a b ⟨ha, hb'⟩
        rw [ha] at h1
        cases h1
        simp [binA] at hb
      · rintro ⟨ha, hb'⟩
        rw [ha] at h1
        cases h1
        simp [binA] at hb
    simp only [execOp, hop, Sem.run_bind, hg, Result.andThen_ok, hz]
    rfl
  have go : ∀ ao, (ao = AOp.bin op x' y') → evOp own nl (evA args) H ao = some q → OpT P (evL args) o q.hin q.r q.hout := by
    intro ao hao h
    subst hao
    simp only [evOp] at h
    split at h
    · rename_i u v hu hv
      simp only [Option.bind_eq_some_iff, out] at h
      obtain ⟨⟨r, s⟩, hb, h⟩ := h
      cases h
      exact key u v hu hv r s hb hs rfl
    · cases h
  -- one of them is nil
  have nilCase : ∀ c {d}, P.underlying t = some d → (∀ {S i a b u v r}, nilEq c a b = some r → V S i a u → V S i b v → eqA d u v = some r) →
      (op = .eql ∧ evOp own nl (evA args) H (.nileq c false x' y') = some q ∨ op = .neq ∧ evOp own nl (evA args) H (.nileq c true x' y') = some q) → OpT P (evL args) o q.hin q.r q.hout := by
    intro c d hd hnil hcase
    have main : ∀ neg, (op = .eql ∧ neg = false ∨ op = .neq ∧ neg = true) → evOp own nl (evA args) H (.nileq c neg x' y') = some q → OpT P (evL args) o q.hin q.r q.hout := by
      intro neg hneg h
      simp only [evOp] at h
      split at h
      · rename_i a b ha hb
        simp only [Option.bind_eq_some_iff, out] at h
        obtain ⟨r, hr, h⟩ := h
        cases h
        refine .pure (by simp [hop]) fun S i w ρ hev hh => ⟨.bool (bif neg then !r else r), ?_, .d .bool⟩
        have he := hnil hr (argV hev hx ha) (argV hev hy hb)
        have hq := run_equal (P := P) (w := w) hd he
        have hg : (eqGuard op t x y (ρ x) (ρ y)).run P w = .ok () w := run_eqGuard (eqA_plain he).1 (eqA_plain he).2
        have hbin := eqA_bin (P := P) (w := w) he hq
        rcases hneg with ⟨rfl, rfl⟩ | ⟨rfl, rfl⟩
        · simp only [execOp, hop, Sem.run_bind, hg, Result.andThen_ok, hbin.1]; rfl
        · simp only [execOp, hop, Sem.run_bind, hg, Result.andThen_ok, hbin.2]; rfl
      · cases h
    rcases hcase with ⟨ho, h⟩ | ⟨ho, h⟩
    · exact main false (.inl ⟨ho, rfl⟩) h
    · exact main true (.inr ⟨ho, rfl⟩) h
  simp only [compBin] at h
  split at h
  · exact go _ rfl h
  · exact go _ rfl h
  · -- bools
    rename_i hund
    have hu := und_some hund (by simp)
    have go2 : ∀ neg, (op = .eql ∧ neg = false ∨ op = .neq ∧ neg = true) → evOp own nl (evA args) H (.beq neg x' y') = some q → OpT P (evL args) o q.hin q.r q.hout := by
      intro neg hneg h
      simp only [evOp] at h
      split at h
      · rename_i a b ha hb
        cases h
        refine .pure (by simp [hop]) fun S i w ρ hev hh => ⟨.bool (bif neg then !(a == b) else a == b), ?_, .d .bool⟩
        have h1 := vBool (argV hev hx ha)
        have h2 := vBool (argV hev hy hb)
        have hg : (eqGuard op t x y (ρ x) (ρ y)).run P w = .ok () w := run_eqGuard (by rw [h1]; simp) (by rw [h1]; simp)
        have he := run_equal (P := P) (w := w) (u := .bool a) (v := .bool b) (b := a == b) hu rfl
        have hbin := eqA_bin (P := P) (w := w) (d := .bool) (u := .bool a) (v := .bool b) rfl he
        rw [← h1, ← h2] at hbin
        rcases hneg with ⟨rfl, rfl⟩ | ⟨rfl, rfl⟩
        · simp only [execOp, hop, Sem.run_bind, hg, Result.andThen_ok, hbin.1]; rfl
        · simp only [execOp, hop, Sem.run_bind, hg, Result.andThen_ok, hbin.2]; rfl
      · cases h
    split at h
    · exact go2 _ (.inl ⟨rfl, rfl⟩) h
    · exact go2 _ (.inr ⟨rfl, rfl⟩) h
    · cases h
  · rename_i e hund
    refine nilCase 0 (und_some hund (by simp)) nilEq0 ?_
    split at h
    · exact .inl ⟨rfl, h⟩
    · exact .inr ⟨rfl, h⟩
    · cases h
  · rename_i e hund
    refine nilCase 1 (und_some hund (by simp)) nilEq1 ?_
    split at h
    · exact .inl ⟨rfl, h⟩
    · exact .inr ⟨rfl, h⟩
    · cases h
  · rename_i e1 e2 e3 hund
    refine nilCase 2 (und_some hund (by simp)) nilEq2 ?_
    split at h
    · exact .inl ⟨rfl, h⟩
    · exact .inr ⟨rfl, h⟩
    · cases h
  · rename_i k e hund
    refine nilCase 3 (und_some hund (by simp)) (fun h => by simp [nilEq, nilOf] at h) ?_
    split at h
    · exact .inl ⟨rfl, h⟩
    · exact .inr ⟨rfl, h⟩
    · cases h
  · split at h
    · split at h
      · split at h <;> cases h
      · cases h
    · cases h
  · cases h
end
end Go.Proofs.Abs

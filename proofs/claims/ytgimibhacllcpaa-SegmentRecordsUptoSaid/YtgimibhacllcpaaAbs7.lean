/- More of the operations. -/
import Derived.Test.YtgimibhacllcpaaAbs6
namespace Go.Proofs.Abs
open Go
section
variable {P : Program} {args : List (Nat × AV)} {H : AHeap} {o : Oper} {own : Bool} {nl : Nat} {q : Out}

theorem ok_un {op : UnOp} {t : TypeId} {x : Operand} (hop : o.op = .unOp op t x) (h : evOp own nl (evA args) H (compOp P o.op) = some q) : OpT P (evL args) o q.hin q.r q.hout := by
  rw [hop] at h
  simp only [compOp] at h
  cases hx : argA x <;> rw [hx] at h <;> try cases h
  simp only [evOp] at h
  split at h <;> first | cases h | skip
  · rename_i b hb
    refine .pure (by simp [hop]) fun S i w ρ hev hh => ⟨_, ?_, .d .bool⟩
    have := vBool (argV hev hx hb)
    simp only [execOp, hop, this, Op.unary]; rfl
  · rename_i k n hb
    refine .pure (by simp [hop]) fun S i w ρ hev hh => ⟨_, ?_, .d .int⟩
    have := vInt (argV hev hx hb)
    simp only [execOp, hop, this, Op.unary, Op.intArith]; rfl
  · rename_i k n hb
    refine .pure (by simp [hop]) fun S i w ρ hev hh => ⟨_, ?_, .d .int⟩
    have := vInt (argV hev hx hb)
    simp only [execOp, hop, this, Op.unary, Op.intBits]; rfl

theorem ok_ext {x : Operand} {k : Nat} (hop : o.op = .extract x k) (h : evOp own nl (evA args) H (compOp P o.op) = some q) : OpT P (evL args) o q.hin q.r q.hout := by
  rw [hop] at h
  simp only [compOp] at h
  cases hx : argA x <;> rw [hx] at h <;> try cases h
  simp only [evOp] at h
  split at h <;> first | cases h | skip
  rename_i l hl
  simp only [Option.bind_eq_some_iff, out] at h
  obtain ⟨r, hr, h⟩ := h
  cases h
  refine .pure (by simp [hop]) fun S i w ρ hev hh => ?_
  have hv := argV hev hx hl
  generalize hu : ρ x = u at hv
  cases hv with
  | tup hlen hall =>
    rename_i vs
    obtain ⟨hk, hr⟩ := List.getElem?_eq_some_iff.1 hr
    have hk' : k < vs.length := hlen ▸ hk
    refine ⟨vs[k], ?_, hr ▸ hall k hk hk'⟩
    simp [execOp, hop, hu, Instr.extract, hk']

theorem run_und {t : TypeId} {d : TypeDesc} {w : World} (h : P.underlying t = some d) : (underlying t).run P w = .ok d w := by simp [underlying, h]
theorem run_sizeOf {t : TypeId} {j : TypeInfo} {w : World} (h : P.info? t = some j) : (sizeOf t).run P w = .ok j.size w := by simp [sizeOf, typeInfo, h]
theorem run_typeInfo {t : TypeId} {j : TypeInfo} {w : World} (h : P.info? t = some j) : (typeInfo t).run P w = .ok j w := by simp [typeInfo, h]

theorem argsA_all : ∀ {l : List Operand} {as : List Arg}, argsA l = some as → l.length = as.length ∧ ∀ j (h1 : j < l.length) (h2 : j < as.length), argA l[j] = some as[j]
  | [], as, h => by cases h; simp
  | x :: r, as, h => by
    simp only [argsA] at h
    split at h <;> first | cases h | skip
    rename_i a l ha hl
    obtain ⟨h1, h2⟩ := argsA_all hl
    refine ⟨by simp [h1], fun j h3 h4 => ?_⟩
    cases j with
    | zero => exact ha
    | succ j => exact h2 j (by simpa using h3) (by simpa using h4)
theorem argsA_one {l : List Operand} {a : Arg} (h : argsA l = some [a]) : ∃ x, l = [x] ∧ argA x = some a := by
  obtain ⟨h1, h2⟩ := argsA_all h
  match l, h1 with
  | [x], _ => exact ⟨x, rfl, h2 0 (by simp) (by simp)⟩
theorem argsA_two {l : List Operand} {a b : Arg} (h : argsA l = some [a, b]) : ∃ x y, l = [x, y] ∧ argA x = some a ∧ argA y = some b := by
  obtain ⟨h1, h2⟩ := argsA_all h
  match l, h1 with
  | [x, y], _ => exact ⟨x, y, rfl, h2 0 (by simp) (by simp), h2 1 (by simp) (by simp)⟩

inductive CallK (P : Program) (c : Call) : AOp → Prop
  | len {x a t e ts} (hc : c.callee = .builtin .len) (ha : c.args.toList = [x]) (hx : argA x = some a) (ht : c.argTypes.toList = t :: ts) (hu : und P t = .slice e) : CallK P c (.len a)
  | slen {x a t ts} (hc : c.callee = .builtin .len) (ha : c.args.toList = [x]) (hx : argA x = some a) (ht : c.argTypes.toList = t :: ts) (hu : und P t = .string) : CallK P c (.slen a)
  | cap {x a t e ts} (hc : c.callee = .builtin .cap) (ha : c.args.toList = [x]) (hx : argA x = some a) (ht : c.argTypes.toList = t :: ts) (hu : und P t = .slice e) : CallK P c (.cap a)
  | app {x y a b t u e ts zz j} (hc : c.callee = .builtin .append) (ha : c.args.toList = [x, y]) (hx : argA x = some a) (hy : argA y = some b) (ht : c.argTypes.toList = t :: u :: ts)
      (hu : und P t = .slice e) (hu2 : (∃ e', und P u = .slice e') ∨ und P u = .string) (hz : zeroA P e = some zz) (hj : P.info? e = some j) : CallK P c (.app a b j.size j.bytes zz)
  | grow {x y a b t u e k ts zz j} (hc : c.callee = .builtin .append) (ha : c.args.toList = [x, y]) (hx : argA x = some a) (hy : argA y = some b) (ht : c.argTypes.toList = t :: u :: ts)
      (hu : und P t = .slice e) (hu2 : und P u = .int k) (hz : zeroA P e = some zz) (hj : P.info? e = some j) : CallK P c (.grow a b j.size j.bytes zz)
  | copy {x y a b t e ts j} (hc : c.callee = .builtin .copy) (ha : c.args.toList = [x, y]) (hx : argA x = some a) (hy : argA y = some b) (ht : c.argTypes.toList = t :: ts)
      (hu : und P t = .slice e) (hj : P.info? e = some j) : CallK P c (.copy a b j.size)
  | max {l} (hc : c.callee = .builtin .max) (ha : argsA c.args.toList = some l) : CallK P c (.mm true l)
  | min {l} (hc : c.callee = .builtin .min) (ha : argsA c.args.toList = some l) : CallK P c (.mm false l)
  | call {f g l} (hc : c.callee = .value f) (hf : argA f = some g) (ha : argsA c.args.toList = some l) : CallK P c (.call g l)

theorem compCall_inv {c : Call} : compCall P c = .bad ∨ CallK P c (compCall P c) := by
  unfold compCall
  split
  · split
    · exact .inr (.call (by assumption) (by assumption) (by assumption))
    · exact .inl rfl
  · exact .inl rfl
  · rename_i b hc
    split
    · rename_i x t ts ha ht
      obtain ⟨y, h1, h2⟩ := argsA_one ha
      split
      · rename_i hu; exact .inr (.slen hc h1 h2 ht hu)
      · rename_i hu; exact .inr (.len hc h1 h2 ht hu)
      · exact .inl rfl
    · rename_i x t ts ha ht
      obtain ⟨y, h1, h2⟩ := argsA_one ha
      split
      · rename_i hu; exact .inr (.cap hc h1 h2 ht hu)
      · exact .inl rfl
    · rename_i x y t u ts ha ht
      obtain ⟨x', y', h1, h2, h3⟩ := argsA_two ha
      split
      · rename_i hu hu2
        split
        · rename_i hz
          unfold sbK
          split
          · rename_i hj; exact .inr (.app hc h1 h2 h3 ht hu (.inl ⟨_, hu2⟩) hz hj)
          · exact .inl rfl
        · exact .inl rfl
      · rename_i hu hu2
        split
        · rename_i hz
          unfold sbK
          split
          · rename_i hj; exact .inr (.app hc h1 h2 h3 ht hu (.inr hu2) hz hj)
          · exact .inl rfl
        · exact .inl rfl
      · rename_i hu hu2
        split
        · rename_i hz
          unfold sbK
          split
          · rename_i hj; exact .inr (.grow hc h1 h2 h3 ht hu hu2 hz hj)
          · exact .inl rfl
        · exact .inl rfl
      · exact .inl rfl
    · rename_i x y t ts ha ht
      obtain ⟨x', y', h1, h2, h3⟩ := argsA_two ha
      split
      · rename_i hu
        unfold szK
        split
        · rename_i hj; exact .inr (.copy hc h1 h2 h3 ht hu hj)
        · exact .inl rfl
      · exact .inl rfl
    · exact .inr (.max hc (by assumption))
    · exact .inr (.min hc (by assumption))
    · exact .inl rfl

theorem arr1 {α : Type} {a : Array α} {x : α} (h : a.toList = [x]) : a = #[x] := by rw [← Array.toList_inj]; simpa using h
theorem arr2 {α : Type} {a : Array α} {x y : α} (h : a.toList = [x, y]) : a = #[x, y] := by rw [← Array.toList_inj]; simpa using h
theorem arr0 {α : Type} {a : Array α} {x : α} {l : List α} (h : a.toList = x :: l) : a[0]? = some x := by rw [← Array.getElem?_toList, h]; rfl

theorem ok_len {c : Call} {a : Arg} {x : Operand} {t e : TypeId} {ts : List TypeId} (hop : o.op = .call c) (hc : c.callee = .builtin .len) (ha : c.args.toList = [x]) (hx : argA x = some a)
    (ht : c.argTypes.toList = t :: ts) (hu : und P t = .slice e) (h : evOp own nl (evA args) H (.len a) = some q) : OpT P (evL args) o q.hin q.r q.hout := by
  have hty := arr0 ht
  have hund := und_some hu (by simp)
  have key : ∀ (y : AV) (n : Nat), evA args a = some y → q = ⟨.d (.int .i64 n), [], [], True⟩ → (∀ {S i v}, V S i y v → ∃ b c, v = .slice b n c) → OpT P (evL args) o q.hin q.r q.hout := by
    intro y n hy hq hv
    subst hq
    refine .pure (by simp [hop]) fun S i w ρ hev hh => ⟨_, ?_, .d .int⟩
    obtain ⟨b, c', hval⟩ := hv (argV hev hx hy)
    simp only [execOp, hop, resolve, hc, arr1 ha, List.map_toArray, List.map_cons, List.map_nil, hval]
    simp [invoke, builtin, Builtin.len_, hty, run_und hund, goInt]
  simp only [evOp] at h
  split at h
  · rename_i l off n c z hy
    cases h
    exact key _ n hy rfl fun hv => by cases hv; exact ⟨_, _, rfl⟩
  · rename_i y _ hy
    simp only [Option.bind_eq_some_iff, out] at h
    obtain ⟨l, hl, h⟩ := h
    cases h
    exact key _ _ hy rfl fun hv => by
      rcases dSlice (toSl_ok hl hv) with ⟨rfl, h0⟩ | ⟨b, o, cap, z, f, h0, _⟩ | ⟨rfl, a, h0⟩
      · exact ⟨_, _, h0⟩
      · exact ⟨_, _, h0⟩
      · exact ⟨_, _, h0⟩
  · cases h
theorem ok_cap {c : Call} {a : Arg} {x : Operand} {t e : TypeId} {ts : List TypeId} (hop : o.op = .call c) (hc : c.callee = .builtin .cap) (ha : c.args.toList = [x]) (hx : argA x = some a)
    (ht : c.argTypes.toList = t :: ts) (hu : und P t = .slice e) (h : evOp own nl (evA args) H (.cap a) = some q) : OpT P (evL args) o q.hin q.r q.hout := by
  have hty := arr0 ht
  have hund := und_some hu (by simp)
  simp only [evOp] at h
  split at h
  · rename_i l off n c z hy
    cases h
    refine .pure (by simp [hop]) fun S i w ρ hev hh => ⟨_, ?_, .d .int⟩
    have hv := argV hev hx hy
    generalize hval : ρ x = u at hv
    cases hv
    simp only [execOp, hop, resolve, hc, arr1 ha, List.map_toArray, List.map_cons, List.map_nil, hval]
    simp [invoke, builtin, Builtin.cap_, hty, run_und hund, goInt]
  · rename_i xs n hy
    cases h
    refine .pure (by simp [hop]) fun S i w ρ hev hh => ⟨_, ?_, .d .int⟩
    have hv := argV hev hx hy
    generalize hval : ρ x = u at hv
    cases hv
    simp only [execOp, hop, resolve, hc, arr1 ha, List.map_toArray, List.map_cons, List.map_nil, hval]
    simp [invoke, builtin, Builtin.cap_, hty, run_und hund, goInt]
  · rename_i hy
    cases h
    refine .pure (by simp [hop]) fun S i w ρ hev hh => ⟨_, ?_, .d .int⟩
    have hv := argV hev hx hy
    generalize hval : ρ x = u at hv
    cases hv
    simp only [execOp, hop, resolve, hc, arr1 ha, List.map_toArray, List.map_cons, List.map_nil, hval]
    simp [invoke, builtin, Builtin.cap_, hty, run_und hund, goInt]
  · cases h
theorem ok_slen {c : Call} {a : Arg} {x : Operand} {t : TypeId} {ts : List TypeId} (hop : o.op = .call c) (hc : c.callee = .builtin .len) (ha : c.args.toList = [x]) (hx : argA x = some a)
    (ht : c.argTypes.toList = t :: ts) (hu : und P t = .string) (h : evOp own nl (evA args) H (.slen a) = some q) : OpT P (evL args) o q.hin q.r q.hout := by
  have hty := arr0 ht
  have hund := und_some hu (by simp)
  simp only [evOp] at h
  split at h
  · rename_i s hy
    cases h
    refine .pure (by simp [hop]) fun S i w ρ hev hh => ⟨.int .i64 s.length, ?_, .d .int⟩
    have hval := vStr (argV hev hx hy)
    simp only [execOp, hop, resolve, hc, arr1 ha, List.map_toArray, List.map_cons, List.map_nil, hval]
    have hsz : (⟨s.toArray⟩ : ByteArray).size = s.length := by simp [ByteArray.size]
    simp [invoke, builtin, Builtin.len_, hty, run_und hund, goInt, hsz]
  · cases h
end
end Go.Proofs.Abs

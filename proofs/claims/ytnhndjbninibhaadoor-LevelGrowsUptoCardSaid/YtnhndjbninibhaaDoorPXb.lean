import Derived.Test.YtnhndjbninibhaaDoorPXa
import Derived.Test.YtnhndjbninibhaaDoorZGWge
set_option linter.unusedVariables false
set_option linter.unusedSimpArgs false
set_option linter.unusedSectionVars false
section
set_option linter.unusedVariables false
set_option maxRecDepth 100000
set_option maxHeartbeats 4000000
namespace Go.Proofs.Abs
open Go
theorem m_f305 (k:Nat) (a0:Int) (a1:(List Int)):Le (f305 k a0 a1) (f305 (k + 1) a0 a1):=by
  unfold f305
  repeat' first | with_reducible exact Le.refl _ | with_reducible apply Le.cond | with_reducible apply Le.gd | with_reducible apply Le.bind | with_reducible apply Le.lr2 | intro _
theorem m_f304_j87 (k:Nat) (j87_1:Int):Le (f304_j87 k j87_1) (f304_j87 (k + 1) j87_1):=by
  unfold f304_j87
  repeat' first | with_reducible exact Le.refl _ | with_reducible apply Le.cond | with_reducible apply Le.gd | with_reducible apply Le.bind | with_reducible apply Le.lr2 | intro _
theorem m_f304_l37 (a0:TNode) (a1:(List Int)) (k:Nat):∀ (s0:Int) (s1:Int),Le (f304_l37 a0 a1 k s0 s1) (f304_l37 a0 a1 (k + 1) s0 s1):=by
  induction k with
  | zero=>intros; exact Le.none
  | succ k ih =>
    intros
    rw [f304_l37,f304_l37]
    repeat' first | with_reducible exact Le.refl _ | with_reducible apply Le.cond | with_reducible apply Le.gd | with_reducible apply Le.bind | with_reducible apply Le.lr2 | with_reducible apply ih | with_reducible apply m_f305 | intro _ | apply ih | apply m_f305
theorem m_f304_j161 (k:Nat) (j161_1:Int):Le (f304_j161 k j161_1) (f304_j161 (k + 1) j161_1):=by
  unfold f304_j161
  repeat' first | with_reducible exact Le.refl _ | with_reducible apply Le.cond | with_reducible apply Le.gd | with_reducible apply Le.bind | with_reducible apply Le.lr2 | intro _
theorem m_f304_l112 (a0:TNode) (a1:(List Int)) (k:Nat):∀ (s0:Int) (s1:Int),Le (f304_l112 a0 a1 k s0 s1) (f304_l112 a0 a1 (k + 1) s0 s1):=by
  induction k with
  | zero=>intros; exact Le.none
  | succ k ih =>
    intros
    rw [f304_l112,f304_l112]
    repeat' first | with_reducible exact Le.refl _ | with_reducible apply Le.cond | with_reducible apply Le.gd | with_reducible apply Le.bind | with_reducible apply Le.lr2 | with_reducible apply ih | with_reducible apply m_f305 | intro _ | apply ih | apply m_f305
theorem m_f304 (k:Nat) (a0:TNode) (a1:(List Int)):Le (f304 k a0 a1) (f304 (k + 1) a0 a1):=by
  unfold f304
  repeat' first | with_reducible exact Le.refl _ | with_reducible apply Le.cond | with_reducible apply Le.gd | with_reducible apply Le.bind | with_reducible apply Le.lr2 | with_reducible apply m_f304_j161 | with_reducible apply m_f304_j87 | with_reducible apply m_f304_l112 | with_reducible apply m_f304_l37 | intro _ | apply m_f304_j161 | apply m_f304_j87 | apply m_f304_l112 | apply m_f304_l37
theorem m_f250_l85 (a0:TSchema) (y53_1:Nat) (y53_3:(List Int)) (k:Nat):∀ (s0:Bool) (s1:Int) (s2:(List Int)),Le (f250_l85 a0 y53_1 y53_3 k s0 s1 s2) (f250_l85 a0 y53_1 y53_3 (k + 1) s0 s1 s2):=by
  induction k with
  | zero=>intros; exact Le.none
  | succ k ih =>
    intros
    rw [f250_l85,f250_l85]
    repeat' first | with_reducible exact Le.refl _ | with_reducible apply Le.cond | with_reducible apply Le.gd | with_reducible apply Le.bind | with_reducible apply Le.lr2 | with_reducible apply ih | with_reducible apply m_f304 | intro _ | apply ih | apply m_f304
theorem m_f250_l53 (a0:TSchema) (k:Nat):∀ (s0:Nat) (s1:Bool) (s2:(List Int)),Le (f250_l53 a0 k s0 s1 s2) (f250_l53 a0 (k + 1) s0 s1 s2):=by
  induction k with
  | zero=>intros; exact Le.none
  | succ k ih =>
    intros
    rw [f250_l53,f250_l53]
    repeat' first | with_reducible exact Le.refl _ | with_reducible apply Le.cond | with_reducible apply Le.gd | with_reducible apply Le.bind | with_reducible apply Le.lr2 | with_reducible apply ih | with_reducible apply m_f250_l85 | intro _ | apply ih | apply m_f250_l85
theorem m_f250_j48 (k:Nat) (a0:TSchema) (j48_1:(List Int)):Le (f250_j48 k a0 j48_1) (f250_j48 (k + 1) a0 j48_1):=by
  unfold f250_j48
  repeat' first | with_reducible exact Le.refl _ | with_reducible apply Le.cond | with_reducible apply Le.gd | with_reducible apply Le.bind | with_reducible apply Le.lr2 | with_reducible apply m_f250_l53 | intro _ | apply m_f250_l53
theorem m_f250_l21 (a0:TSchema) (k:Nat):∀ (s0:Int) (s1:(List Int)),Le (f250_l21 a0 k s0 s1) (f250_l21 a0 (k + 1) s0 s1):=by
  induction k with
  | zero=>intros; exact Le.none
  | succ k ih =>
    intros
    rw [f250_l21,f250_l21]
    repeat' first | with_reducible exact Le.refl _ | with_reducible apply Le.cond | with_reducible apply Le.gd | with_reducible apply Le.bind | with_reducible apply Le.lr2 | with_reducible apply ih | intro _ | apply ih
theorem m_f250 (k:Nat) (a0:TSchema):Le (f250 k a0) (f250 (k + 1) a0):=by
  unfold f250
  repeat' first | with_reducible exact Le.refl _ | with_reducible apply Le.cond | with_reducible apply Le.gd | with_reducible apply Le.bind | with_reducible apply Le.lr2 | with_reducible apply m_f250_j48 | with_reducible apply m_f250_l21 | intro _ | apply m_f250_j48 | apply m_f250_l21
theorem m_f307_l18 (r15:(List Int)) (k:Nat):∀ (s0:(List Bool)) (s1:Int),Le (f307_l18 r15 k s0 s1) (f307_l18 r15 (k + 1) s0 s1):=by
  induction k with
  | zero=>intros; exact Le.none
  | succ k ih =>
    intros
    rw [f307_l18,f307_l18]
    repeat' first | with_reducible exact Le.refl _ | with_reducible apply Le.cond | with_reducible apply Le.gd | with_reducible apply Le.bind | with_reducible apply Le.lr2 | with_reducible apply ih | intro _ | apply ih
theorem m_f307 (k:Nat) (a0:TSchema):Le (f307 k a0) (f307 (k + 1) a0):=by
  unfold f307
  repeat' first | with_reducible exact Le.refl _ | with_reducible apply Le.cond | with_reducible apply Le.gd | with_reducible apply Le.bind | with_reducible apply Le.lr2 | with_reducible apply m_f250 | with_reducible apply m_f307_l18 | intro _ | apply m_f250 | apply m_f307_l18
theorem m_f490 (k:Nat) (a0:(List TNode)) (a1:(List TNode)) (a2:(List Bool)) (a3:(PM Tcheck_pair (List Tcheck_pair))) (a4:(PM Tcheck_pair Int)) (a5:Tcheck_pair):Le (f490 k a0 a1 a2 a3 a4 a5) (f490 (k + 1) a0 a1 a2 a3 a4 a5):=by
  unfold f490
  repeat' first | with_reducible exact Le.refl _ | with_reducible apply Le.cond | with_reducible apply Le.gd | with_reducible apply Le.bind | with_reducible apply Le.lr2 | intro _
theorem m_f232_j20 (k:Nat) (a1:Int) (a0:TSchema) (j20_1:Bool):Le (f232_j20 k a1 a0 j20_1) (f232_j20 (k + 1) a1 a0 j20_1):=by
  unfold f232_j20
  repeat' first | with_reducible exact Le.refl _ | with_reducible apply Le.cond | with_reducible apply Le.gd | with_reducible apply Le.bind | with_reducible apply Le.lr2 | intro _
theorem m_f232 (k:Nat) (a0:TSchema) (a1:Int):Le (f232 k a0 a1) (f232 (k + 1) a0 a1):=by
  unfold f232
  repeat' first | with_reducible exact Le.refl _ | with_reducible apply Le.cond | with_reducible apply Le.gd | with_reducible apply Le.bind | with_reducible apply Le.lr2 | with_reducible apply m_f232_j20 | intro _ | apply m_f232_j20
theorem m_f238_l13 (a0:(List UInt8)) (a1:UInt8) (k:Nat):∀ (s0:Int),Le (f238_l13 a0 a1 k s0) (f238_l13 a0 a1 (k + 1) s0):=by
  induction k with
  | zero=>intros; exact Le.none
  | succ k ih =>
    intros
    rw [f238_l13,f238_l13]
    repeat' first | with_reducible exact Le.refl _ | with_reducible apply Le.cond | with_reducible apply Le.gd | with_reducible apply Le.bind | with_reducible apply Le.lr2 | with_reducible apply ih | intro _ | apply ih
theorem m_f238 (k:Nat) (a0:(List UInt8)) (a1:UInt8):Le (f238 k a0 a1) (f238 (k + 1) a0 a1):=by
  unfold f238
  repeat' first | with_reducible exact Le.refl _ | with_reducible apply Le.cond | with_reducible apply Le.gd | with_reducible apply Le.bind | with_reducible apply Le.lr2 | with_reducible apply m_f238_l13 | intro _ | apply m_f238_l13
theorem m_f237 (k:Nat) (a0:(List UInt8)) (a1:UInt8):Le (f237 k a0 a1) (f237 (k + 1) a0 a1):=by
  unfold f237
  repeat' first | with_reducible exact Le.refl _ | with_reducible apply Le.cond | with_reducible apply Le.gd | with_reducible apply Le.bind | with_reducible apply Le.lr2 | with_reducible apply m_f238 | intro _ | apply m_f238
theorem m_f236 (k:Nat) (a0:(List UInt8)):Le (f236 k a0) (f236 (k + 1) a0):=by
  unfold f236
  repeat' first | with_reducible exact Le.refl _ | with_reducible apply Le.cond | with_reducible apply Le.gd | with_reducible apply Le.bind | with_reducible apply Le.lr2 | with_reducible apply m_f237 | intro _ | apply m_f237
theorem m_f235 (k:Nat) (a0:(List UInt8)):Le (f235 k a0) (f235 (k + 1) a0):=by
  unfold f235
  repeat' first | with_reducible exact Le.refl _ | with_reducible apply Le.cond | with_reducible apply Le.gd | with_reducible apply Le.bind | with_reducible apply Le.lr2 | with_reducible apply m_f236 | intro _ | apply m_f236
theorem m_f240_l12 (a0:(List (List UInt8))) (a1:(List UInt8)) (k:Nat):∀ (s0:Int),Le (f240_l12 a0 a1 k s0) (f240_l12 a0 a1 (k + 1) s0):=by
  induction k with
  | zero=>intros; exact Le.none
  | succ k ih =>
    intros
    rw [f240_l12,f240_l12]
    repeat' first | with_reducible exact Le.refl _ | with_reducible apply Le.cond | with_reducible apply Le.gd | with_reducible apply Le.bind | with_reducible apply Le.lr2 | with_reducible apply ih | intro _ | apply ih
theorem m_f240 (k:Nat) (a0:(List (List UInt8))) (a1:(List UInt8)):Le (f240 k a0 a1) (f240 (k + 1) a0 a1):=by
  unfold f240
  repeat' first | with_reducible exact Le.refl _ | with_reducible apply Le.cond | with_reducible apply Le.gd | with_reducible apply Le.bind | with_reducible apply Le.lr2 | with_reducible apply m_f240_l12 | intro _ | apply m_f240_l12
theorem m_f239 (k:Nat) (a0:(List (List UInt8))) (a1:(List UInt8)):Le (f239 k a0 a1) (f239 (k + 1) a0 a1):=by
  unfold f239
  repeat' first | with_reducible exact Le.refl _ | with_reducible apply Le.cond | with_reducible apply Le.gd | with_reducible apply Le.bind | with_reducible apply Le.lr2 | with_reducible apply m_f240 | intro _ | apply m_f240
theorem m_f234 (k:Nat) (a0:TNode) (a1:TNode):Le (f234 k a0 a1) (f234 (k + 1) a0 a1):=by
  unfold f234
  repeat' first | with_reducible exact Le.refl _ | with_reducible apply Le.cond | with_reducible apply Le.gd | with_reducible apply Le.bind | with_reducible apply Le.lr2 | with_reducible apply m_f235 | with_reducible apply m_f239 | intro _ | apply m_f235 | apply m_f239
theorem m_f233_j54 (k:Nat) (a0:TNode) (a1:TNode) (j54_1:Bool):Le (f233_j54 k a0 a1 j54_1) (f233_j54 (k + 1) a0 a1 j54_1):=by
  unfold f233_j54
  repeat' first | with_reducible exact Le.refl _ | with_reducible apply Le.cond | with_reducible apply Le.gd | with_reducible apply Le.bind | with_reducible apply Le.lr2 | with_reducible apply m_f234 | intro _ | apply m_f234
theorem m_f233 (k:Nat) (a0:TNode) (a1:TNode):Le (f233 k a0 a1) (f233 (k + 1) a0 a1):=by
  unfold f233
  repeat' first | with_reducible exact Le.refl _ | with_reducible apply Le.cond | with_reducible apply Le.gd | with_reducible apply Le.bind | with_reducible apply Le.lr2 | with_reducible apply m_f233_j54 | intro _ | apply m_f233_j54
theorem m_f231_j126 (k:Nat) (L L':Int→Int→Int→Option (LR2 Unit Unit Bool)) (r37:(Bool×Int×(List UInt8)×(List (List UInt8))×(List TField)×(List (List UInt8))×Bool×(List UInt8)×Int×(List Int)×Int)) (r49:(Bool×Int×(List UInt8)×(List (List UInt8))×(List TField)×(List (List UInt8))×Bool×(List UInt8)×Int×(List Int)×Int)) (y20_3:Int) (hL:∀ x0 x1 x2,Le (L x0 x1 x2) (L' x0 x1 x2)):Le (f231_j126 L k r37 r49 y20_3) (f231_j126 L' (k + 1) r37 r49 y20_3):=by
  unfold f231_j126
  repeat' first | with_reducible exact Le.refl _ | with_reducible apply Le.cond | with_reducible apply Le.gd | with_reducible apply Le.bind | with_reducible apply Le.lr2 | with_reducible apply hL | intro _ | apply hL
theorem m_f231_l20 (a0:TSchema) (a2:TSchema) (k:Nat):∀ (s0:Int) (s1:Int) (s2:Int),Le (f231_l20 a0 a2 k s0 s1 s2) (f231_l20 a0 a2 (k + 1) s0 s1 s2):=by
  induction k with
  | zero=>intros; exact Le.none
  | succ k ih =>
    intros
    rw [f231_l20,f231_l20]
    repeat' first | with_reducible exact Le.refl _ | with_reducible apply Le.cond | with_reducible apply Le.gd | with_reducible apply Le.bind | with_reducible apply Le.lr2 | with_reducible apply ih | with_reducible apply m_f231_j126 | with_reducible apply m_f232 | with_reducible apply m_f233 | intro _ | apply ih | apply m_f231_j126 | apply m_f232 | apply m_f233
theorem m_f231 (k:Nat) (a0:TSchema) (a1:Int) (a2:TSchema) (a3:Int):Le (f231 k a0 a1 a2 a3) (f231 (k + 1) a0 a1 a2 a3):=by
  unfold f231
  repeat' first | with_reducible exact Le.refl _ | with_reducible apply Le.cond | with_reducible apply Le.gd | with_reducible apply Le.bind | with_reducible apply Le.lr2 | with_reducible apply m_f231_l20 | intro _ | apply m_f231_l20
theorem m_f241_l44 (r13:(Bool×Int×(List UInt8)×(List (List UInt8))×(List TField)×(List (List UInt8))×Bool×(List UInt8)×Int×(List Int)×Int)) (a0:TSchema) (a1:Int) (a2:TSchema) (k:Nat):∀ (s0:Int),Le (f241_l44 r13 a0 a1 a2 k s0) (f241_l44 r13 a0 a1 a2 (k + 1) s0):=by
  induction k with
  | zero=>intros; exact Le.none
  | succ k ih =>
    intros
    rw [f241_l44,f241_l44]
    repeat' first | with_reducible exact Le.refl _ | with_reducible apply Le.cond | with_reducible apply Le.gd | with_reducible apply Le.bind | with_reducible apply Le.lr2 | with_reducible apply ih | with_reducible apply m_f231 | intro _ | apply ih | apply m_f231
theorem m_f241 (k:Nat) (a0:TSchema) (a1:Int) (a2:TSchema) (a3:Int):Le (f241 k a0 a1 a2 a3) (f241 (k + 1) a0 a1 a2 a3):=by
  unfold f241
  repeat' first | with_reducible exact Le.refl _ | with_reducible apply Le.cond | with_reducible apply Le.gd | with_reducible apply Le.bind | with_reducible apply Le.lr2 | with_reducible apply m_f232 | with_reducible apply m_f241_l44 | intro _ | apply m_f232 | apply m_f241_l44
theorem m_f494 (k:Nat) (a0:(List UInt8)) (a1:Int) (a2:(List UInt8)) (a3:(List (List UInt8))) (a4:(List TField)) (a5:(List (List UInt8))) (a6:Bool) (a7:(List UInt8)) (a8:Int) (a9:(List Int)) (a10:Int):Le (f494 k a0 a1 a2 a3 a4 a5 a6 a7 a8 a9 a10) (f494 (k + 1) a0 a1 a2 a3 a4 a5 a6 a7 a8 a9 a10):=by
  unfold f494
  repeat' first | with_reducible exact Le.refl _ | with_reducible apply Le.cond | with_reducible apply Le.gd | with_reducible apply Le.bind | with_reducible apply Le.lr2 | with_reducible apply m_f239 | intro _ | apply m_f239
theorem m_f493_l12 (a0:(List (List UInt8))) (a1:Int) (a2:(List UInt8)) (a3:(List (List UInt8))) (a4:(List TField)) (a5:(List (List UInt8))) (a6:Bool) (a7:(List UInt8)) (a8:Int) (a9:(List Int)) (a10:Int) (k:Nat):∀ (s0:Int),Le (f493_l12 a0 a1 a2 a3 a4 a5 a6 a7 a8 a9 a10 k s0) (f493_l12 a0 a1 a2 a3 a4 a5 a6 a7 a8 a9 a10 (k + 1) s0):=by
  induction k with
  | zero=>intros; exact Le.none
  | succ k ih =>
    intros
    rw [f493_l12,f493_l12]
    repeat' first | with_reducible exact Le.refl _ | with_reducible apply Le.cond | with_reducible apply Le.gd | with_reducible apply Le.bind | with_reducible apply Le.lr2 | with_reducible apply ih | with_reducible apply m_f494 | intro _ | apply ih | apply m_f494
theorem m_f493 (k:Nat) (a0:(List (List UInt8))) (a1:Int) (a2:(List UInt8)) (a3:(List (List UInt8))) (a4:(List TField)) (a5:(List (List UInt8))) (a6:Bool) (a7:(List UInt8)) (a8:Int) (a9:(List Int)) (a10:Int):Le (f493 k a0 a1 a2 a3 a4 a5 a6 a7 a8 a9 a10) (f493 (k + 1) a0 a1 a2 a3 a4 a5 a6 a7 a8 a9 a10):=by
  unfold f493
  repeat' first | with_reducible exact Le.refl _ | with_reducible apply Le.cond | with_reducible apply Le.gd | with_reducible apply Le.bind | with_reducible apply Le.lr2 | with_reducible apply m_f493_l12 | intro _ | apply m_f493_l12
theorem m_f492 (k:Nat) (a0:(List (List UInt8))) (a1:Int) (a2:(List UInt8)) (a3:(List (List UInt8))) (a4:(List TField)) (a5:(List (List UInt8))) (a6:Bool) (a7:(List UInt8)) (a8:Int) (a9:(List Int)) (a10:Int):Le (f492 k a0 a1 a2 a3 a4 a5 a6 a7 a8 a9 a10) (f492 (k + 1) a0 a1 a2 a3 a4 a5 a6 a7 a8 a9 a10):=by
  unfold f492
  repeat' first | with_reducible exact Le.refl _ | with_reducible apply Le.cond | with_reducible apply Le.gd | with_reducible apply Le.bind | with_reducible apply Le.lr2 | with_reducible apply m_f493 | intro _ | apply m_f493
theorem m_f260 (k:Nat) (a0:Int):Le (f260 k a0) (f260 (k + 1) a0):=by
  unfold f260
  repeat' first | with_reducible exact Le.refl _ | with_reducible apply Le.cond | with_reducible apply Le.gd | with_reducible apply Le.bind | with_reducible apply Le.lr2 | intro _
theorem m_f259_l70 (a0:(List (List (List UInt8)))) (k:Nat):∀ (s0:(List (List UInt8))) (s1:Int),Le (f259_l70 a0 k s0 s1) (f259_l70 a0 (k + 1) s0 s1):=by
  induction k with
  | zero=>intros; exact Le.none
  | succ k ih =>
    intros
    rw [f259_l70,f259_l70]
    repeat' first | with_reducible exact Le.refl _ | with_reducible apply Le.cond | with_reducible apply Le.gd | with_reducible apply Le.bind | with_reducible apply Le.lr2 | with_reducible apply ih | intro _ | apply ih
theorem m_f259_j57 (k:Nat) (a0:(List (List (List UInt8)))) (j57_1:Int):Le (f259_j57 k a0 j57_1) (f259_j57 (k + 1) a0 j57_1):=by
  unfold f259_j57
  repeat' first | with_reducible exact Le.refl _ | with_reducible apply Le.cond | with_reducible apply Le.gd | with_reducible apply Le.bind | with_reducible apply Le.lr2 | with_reducible apply m_f259_l70 | with_reducible apply m_f260 | intro _ | apply m_f259_l70 | apply m_f260
theorem m_f259_l16 (a0:(List (List (List UInt8)))) (k:Nat):∀ (s0:Int) (s1:Int),Le (f259_l16 a0 k s0 s1) (f259_l16 a0 (k + 1) s0 s1):=by
  induction k with
  | zero=>intros; exact Le.none
  | succ k ih =>
    intros
    rw [f259_l16,f259_l16]
    repeat' first | with_reducible exact Le.refl _ | with_reducible apply Le.cond | with_reducible apply Le.gd | with_reducible apply Le.bind | with_reducible apply Le.lr2 | with_reducible apply ih | intro _ | apply ih
theorem m_f259 (k:Nat) (a0:(List (List (List UInt8)))):Le (f259 k a0) (f259 (k + 1) a0):=by
  unfold f259
  repeat' first | with_reducible exact Le.refl _ | with_reducible apply Le.cond | with_reducible apply Le.gd | with_reducible apply Le.bind | with_reducible apply Le.lr2 | with_reducible apply m_f259_j57 | with_reducible apply m_f259_l16 | intro _ | apply m_f259_j57 | apply m_f259_l16
theorem m_f291 (k:Nat) (a0:TField) (a1:(List UInt8)):Le (f291 k a0 a1) (f291 (k + 1) a0 a1):=by
  unfold f291
  repeat' first | with_reducible exact Le.refl _ | with_reducible apply Le.cond | with_reducible apply Le.gd | with_reducible apply Le.bind | with_reducible apply Le.lr2 | intro _
theorem m_f290_l12 (a0:(List TField)) (a1:(List UInt8)) (k:Nat):∀ (s0:Int),Le (f290_l12 a0 a1 k s0) (f290_l12 a0 a1 (k + 1) s0):=by
  induction k with
  | zero=>intros; exact Le.none
  | succ k ih =>
    intros
    rw [f290_l12,f290_l12]
    repeat' first | with_reducible exact Le.refl _ | with_reducible apply Le.cond | with_reducible apply Le.gd | with_reducible apply Le.bind | with_reducible apply Le.lr2 | with_reducible apply ih | with_reducible apply m_f291 | intro _ | apply ih | apply m_f291
theorem m_f290 (k:Nat) (a0:(List TField)) (a1:(List UInt8)):Le (f290 k a0 a1) (f290 (k + 1) a0 a1):=by
  unfold f290
  repeat' first | with_reducible exact Le.refl _ | with_reducible apply Le.cond | with_reducible apply Le.gd | with_reducible apply Le.bind | with_reducible apply Le.lr2 | with_reducible apply m_f290_l12 | intro _ | apply m_f290_l12
theorem m_f258_l20 (r17:(List (List UInt8))) (a0:TNode) (k:Nat):∀ (s0:Int),Le (f258_l20 r17 a0 k s0) (f258_l20 r17 a0 (k + 1) s0):=by
  induction k with
  | zero=>intros; exact Le.none
  | succ k ih =>
    intros
    rw [f258_l20,f258_l20]
    repeat' first | with_reducible exact Le.refl _ | with_reducible apply Le.cond | with_reducible apply Le.gd | with_reducible apply Le.bind | with_reducible apply Le.lr2 | with_reducible apply ih | with_reducible apply m_f290 | intro _ | apply ih | apply m_f290
theorem m_f258 (k:Nat) (a0:TNode) (a1:TField):Le (f258 k a0 a1) (f258 (k + 1) a0 a1):=by
  unfold f258
  repeat' first | with_reducible exact Le.refl _ | with_reducible apply Le.cond | with_reducible apply Le.gd | with_reducible apply Le.bind | with_reducible apply Le.lr2 | with_reducible apply m_f258_l20 | with_reducible apply m_f259 | intro _ | apply m_f258_l20 | apply m_f259
theorem m_f495_j90 (k:Nat) (j90_1:(List Tcheck_pair)) (j90_2:Bool):Le (f495_j90 k j90_1 j90_2) (f495_j90 (k + 1) j90_1 j90_2):=by
  unfold f495_j90
  repeat' first | with_reducible exact Le.refl _ | with_reducible apply Le.cond | with_reducible apply Le.gd | with_reducible apply Le.bind | with_reducible apply Le.lr2 | intro _
theorem m_f495_l27 (a1:TNode) (a0:TNode) (k:Nat):∀ (s0:(List Tcheck_pair)) (s1:Bool) (s2:Int),Le (f495_l27 a1 a0 k s0 s1 s2) (f495_l27 a1 a0 (k + 1) s0 s1 s2):=by
  induction k with
  | zero=>intros; exact Le.none
  | succ k ih =>
    intros
    rw [f495_l27,f495_l27]
    repeat' first | with_reducible exact Le.refl _ | with_reducible apply Le.cond | with_reducible apply Le.gd | with_reducible apply Le.bind | with_reducible apply Le.lr2 | with_reducible apply ih | with_reducible apply m_f258 | intro _ | apply ih | apply m_f258
theorem m_f495 (k:Nat) (a0:TNode) (a1:TNode):Le (f495 k a0 a1) (f495 (k + 1) a0 a1):=by
  unfold f495
  repeat' first | with_reducible exact Le.refl _ | with_reducible apply Le.cond | with_reducible apply Le.gd | with_reducible apply Le.bind | with_reducible apply Le.lr2 | with_reducible apply m_f495_j90 | with_reducible apply m_f495_l27 | intro _ | apply m_f495_j90 | apply m_f495_l27
theorem m_f491_j84 (k:Nat) (j84_1:(List Tcheck_pair)):Le (f491_j84 k j84_1) (f491_j84 (k + 1) j84_1):=by
  unfold f491_j84
  repeat' first | with_reducible exact Le.refl _ | with_reducible apply Le.cond | with_reducible apply Le.gd | with_reducible apply Le.bind | with_reducible apply Le.lr2 | intro _
theorem m_f491_l52 (a0:(List TNode)) (a6:Tcheck_pair) (k:Nat):∀ (s0:(List Tcheck_pair)) (s1:Int),Le (f491_l52 a0 a6 k s0 s1) (f491_l52 a0 a6 (k + 1) s0 s1):=by
  induction k with
  | zero=>intros; exact Le.none
  | succ k ih =>
    intros
    rw [f491_l52,f491_l52]
    repeat' first | with_reducible exact Le.refl _ | with_reducible apply Le.cond | with_reducible apply Le.gd | with_reducible apply Le.bind | with_reducible apply Le.lr2 | with_reducible apply ih | intro _ | apply ih
theorem m_f491_j213 (k:Nat) (a0:(List TNode)) (a6:Tcheck_pair) (a1:(List TNode)) (j213_1:Bool):Le (f491_j213 k a0 a6 a1 j213_1) (f491_j213 (k + 1) a0 a6 a1 j213_1):=by
  unfold f491_j213
  repeat' first | with_reducible exact Le.refl _ | with_reducible apply Le.cond | with_reducible apply Le.gd | with_reducible apply Le.bind | with_reducible apply Le.lr2 | with_reducible apply m_f495 | intro _ | apply m_f495
theorem m_f491 (k:Nat) (a0:(List TNode)) (a1:(List TNode)) (a2:(List Bool)) (a3:(List Tcheck_pair)) (a4:(PM Tcheck_pair (List Tcheck_pair))) (a5:(PM Tcheck_pair Int)) (a6:Tcheck_pair):Le (f491 k a0 a1 a2 a3 a4 a5 a6) (f491 (k + 1) a0 a1 a2 a3 a4 a5 a6):=by
  unfold f491
  repeat' first | with_reducible exact Le.refl _ | with_reducible apply Le.cond | with_reducible apply Le.gd | with_reducible apply Le.bind | with_reducible apply Le.lr2 | with_reducible apply m_f231 | with_reducible apply m_f241 | with_reducible apply m_f491_j213 | with_reducible apply m_f491_j84 | with_reducible apply m_f491_l52 | with_reducible apply m_f492 | intro _ | apply m_f231 | apply m_f241 | apply m_f491_j213 | apply m_f491_j84 | apply m_f491_l52 | apply m_f492
theorem m_f490v2 (k:Nat) (a0:(List TNode)) (a1:(List TNode)) (a2:(List Bool)) (a3:(List Tcheck_pair)) (a4:(PM Tcheck_pair (List Tcheck_pair))) (a5:(PM Tcheck_pair Int)) (a6:Tcheck_pair):Le (f490v2 k a0 a1 a2 a3 a4 a5 a6) (f490v2 (k + 1) a0 a1 a2 a3 a4 a5 a6):=by
  unfold f490v2
  repeat' first | with_reducible exact Le.refl _ | with_reducible apply Le.cond | with_reducible apply Le.gd | with_reducible apply Le.bind | with_reducible apply Le.lr2 | intro _
theorem m_f489v2_l129 (r91:((List Tcheck_pair)×Bool)) (rc489v2 rc489v2':Y489v2) (a0:(List TNode)) (a1:(List TNode)) (a2:(List Bool)) (hrc489v2:∀ x0 x1 x2 x3 x4 x5 x6,Le (rc489v2 x0 x1 x2 x3 x4 x5 x6) (rc489v2' x0 x1 x2 x3 x4 x5 x6)) (k:Nat):∀ (s0:Int) (s1:(List Tcheck_pair)) (s2:(PM Tcheck_pair (List Tcheck_pair))) (s3:(PM Tcheck_pair Int)),Le (f489v2_l129 r91 rc489v2 a0 a1 a2 k s0 s1 s2 s3) (f489v2_l129 r91 rc489v2' a0 a1 a2 (k + 1) s0 s1 s2 s3):=by
  induction k with
  | zero=>intros; exact Le.none
  | succ k ih =>
    intros
    rw [f489v2_l129,f489v2_l129]
    repeat' first | with_reducible exact Le.refl _ | with_reducible apply Le.cond | with_reducible apply Le.gd | with_reducible apply Le.bind | with_reducible apply Le.lr2 | with_reducible apply ih | with_reducible apply hrc489v2 | intro _ | apply ih | apply hrc489v2
theorem m_f489v2_j113 (k:Nat) (r91:((List Tcheck_pair)×Bool)) (rc489v2 rc489v2':Y489v2) (a0:(List TNode)) (a1:(List TNode)) (a2:(List Bool)) (a3:(List Tcheck_pair)) (a6:Tcheck_pair) (a4:(PM Tcheck_pair (List Tcheck_pair))) (j113_1:(PM Tcheck_pair Int)) (hrc489v2:∀ x0 x1 x2 x3 x4 x5 x6,Le (rc489v2 x0 x1 x2 x3 x4 x5 x6) (rc489v2' x0 x1 x2 x3 x4 x5 x6)):Le (f489v2_j113 k r91 rc489v2 a0 a1 a2 a3 a6 a4 j113_1) (f489v2_j113 (k + 1) r91 rc489v2' a0 a1 a2 a3 a6 a4 j113_1):=by
  unfold f489v2_j113
  repeat' first | with_reducible exact Le.refl _ | with_reducible apply Le.cond | with_reducible apply Le.gd | with_reducible apply Le.bind | with_reducible apply Le.lr2 | with_reducible apply hrc489v2 | with_reducible apply m_f489v2_l129 | intro _ | apply hrc489v2 | apply m_f489v2_l129
theorem m_f489v2_j74 (k:Nat) (a3:(List Tcheck_pair)) (a6:Tcheck_pair) (a4:(PM Tcheck_pair (List Tcheck_pair))) (a5:(PM Tcheck_pair Int)) (a0:(List TNode)) (a1:(List TNode)) (a2:(List Bool)) (rc489v2 rc489v2':Y489v2) (j74_1:Bool) (hrc489v2:∀ x0 x1 x2 x3 x4 x5 x6,Le (rc489v2 x0 x1 x2 x3 x4 x5 x6) (rc489v2' x0 x1 x2 x3 x4 x5 x6)):Le (f489v2_j74 k a3 a6 a4 a5 a0 a1 a2 rc489v2 j74_1) (f489v2_j74 (k + 1) a3 a6 a4 a5 a0 a1 a2 rc489v2' j74_1):=by
  unfold f489v2_j74
  repeat' first | with_reducible exact Le.refl _ | with_reducible apply Le.cond | with_reducible apply Le.gd | with_reducible apply Le.bind | with_reducible apply Le.lr2 | with_reducible apply hrc489v2 | with_reducible apply m_f489v2_j113 | with_reducible apply m_f491 | intro _ | apply hrc489v2 | apply m_f489v2_j113 | apply m_f491
theorem m_f489v2_s (k:Nat) (rc489v2 rc489v2':Y489v2) (a0:(List TNode)) (a1:(List TNode)) (a2:(List Bool)) (a3:(List Tcheck_pair)) (a4:(PM Tcheck_pair (List Tcheck_pair))) (a5:(PM Tcheck_pair Int)) (a6:Tcheck_pair) (hrc489v2:∀ x0 x1 x2 x3 x4 x5 x6,Le (rc489v2 x0 x1 x2 x3 x4 x5 x6) (rc489v2' x0 x1 x2 x3 x4 x5 x6)):Le (f489v2_s rc489v2 k a0 a1 a2 a3 a4 a5 a6) (f489v2_s rc489v2' (k + 1) a0 a1 a2 a3 a4 a5 a6):=by
  unfold f489v2_s
  repeat' first | with_reducible exact Le.refl _ | with_reducible apply Le.cond | with_reducible apply Le.gd | with_reducible apply Le.bind | with_reducible apply Le.lr2 | with_reducible apply hrc489v2 | with_reducible apply m_f489v2_j74 | with_reducible apply m_f490v2 | intro _ | apply hrc489v2 | apply m_f489v2_j74 | apply m_f490v2
theorem m_f489v2 (k:Nat):∀ (s0:(List TNode)) (s1:(List TNode)) (s2:(List Bool)) (s3:(List Tcheck_pair)) (s4:(PM Tcheck_pair (List Tcheck_pair))) (s5:(PM Tcheck_pair Int)) (s6:Tcheck_pair),Le (f489v2 k s0 s1 s2 s3 s4 s5 s6) (f489v2 (k + 1) s0 s1 s2 s3 s4 s5 s6):=by
  induction k with
  | zero=>intros; exact Le.none
  | succ k ih =>
    intros
    rw [f489v2,f489v2]
    repeat' first | with_reducible exact Le.refl _ | with_reducible apply Le.cond | with_reducible apply Le.gd | with_reducible apply Le.bind | with_reducible apply Le.lr2 | with_reducible apply ih | with_reducible apply m_f489v2_s | intro _ | apply ih | apply m_f489v2_s
theorem m_f489_l129 (r91:((List Tcheck_pair)×Bool)) (a0:(List TNode)) (a1:(List TNode)) (a2:(List Bool)) (k:Nat):∀ (s0:Int) (s1:(List Tcheck_pair)) (s2:(PM Tcheck_pair (List Tcheck_pair))) (s3:(PM Tcheck_pair Int)),Le (f489_l129 r91 a0 a1 a2 k s0 s1 s2 s3) (f489_l129 r91 a0 a1 a2 (k + 1) s0 s1 s2 s3):=by
  induction k with
  | zero=>intros; exact Le.none
  | succ k ih =>
    intros
    rw [f489_l129,f489_l129]
    repeat' first | with_reducible exact Le.refl _ | with_reducible apply Le.cond | with_reducible apply Le.gd | with_reducible apply Le.bind | with_reducible apply Le.lr2 | with_reducible apply ih | with_reducible apply m_f489v2 | intro _ | apply ih | apply m_f489v2
theorem m_f489_j113 (k:Nat) (r91:((List Tcheck_pair)×Bool)) (a0:(List TNode)) (a1:(List TNode)) (a2:(List Bool)) (a5:Tcheck_pair) (a3:(PM Tcheck_pair (List Tcheck_pair))) (j113_1:(PM Tcheck_pair Int)):Le (f489_j113 k r91 a0 a1 a2 a5 a3 j113_1) (f489_j113 (k + 1) r91 a0 a1 a2 a5 a3 j113_1):=by
  unfold f489_j113
  repeat' first | with_reducible exact Le.refl _ | with_reducible apply Le.cond | with_reducible apply Le.gd | with_reducible apply Le.bind | with_reducible apply Le.lr2 | with_reducible apply m_f489_l129 | intro _ | apply m_f489_l129
theorem m_f489_j74 (k:Nat) (a5:Tcheck_pair) (a3:(PM Tcheck_pair (List Tcheck_pair))) (a4:(PM Tcheck_pair Int)) (a0:(List TNode)) (a1:(List TNode)) (a2:(List Bool)) (j74_1:Bool):Le (f489_j74 k a5 a3 a4 a0 a1 a2 j74_1) (f489_j74 (k + 1) a5 a3 a4 a0 a1 a2 j74_1):=by
  unfold f489_j74
  repeat' first | with_reducible exact Le.refl _ | with_reducible apply Le.cond | with_reducible apply Le.gd | with_reducible apply Le.bind | with_reducible apply Le.lr2 | with_reducible apply m_f489_j113 | with_reducible apply m_f491 | intro _ | apply m_f489_j113 | apply m_f491
theorem m_f489 (k:Nat) (a0:(List TNode)) (a1:(List TNode)) (a2:(List Bool)) (a3:(PM Tcheck_pair (List Tcheck_pair))) (a4:(PM Tcheck_pair Int)) (a5:Tcheck_pair):Le (f489 k a0 a1 a2 a3 a4 a5) (f489 (k + 1) a0 a1 a2 a3 a4 a5):=by
  unfold f489
  repeat' first | with_reducible exact Le.refl _ | with_reducible apply Le.cond | with_reducible apply Le.gd | with_reducible apply Le.bind | with_reducible apply Le.lr2 | with_reducible apply m_f489_j74 | with_reducible apply m_f490 | intro _ | apply m_f489_j74 | apply m_f490
theorem m_f383 (k:Nat) (a0:TSchema) (a1:TSchema):Le (f383 k a0 a1) (f383 (k + 1) a0 a1):=by
  unfold f383
  repeat' first | with_reducible exact Le.refl _ | with_reducible apply Le.cond | with_reducible apply Le.gd | with_reducible apply Le.bind | with_reducible apply Le.lr2 | with_reducible apply m_f307 | with_reducible apply m_f489 | intro _ | apply m_f307 | apply m_f489
theorem m_f382_j163 (k:Nat) (j163_1:(PM Tcheck_pair Int)):Le (f382_j163 k j163_1) (f382_j163 (k + 1) j163_1):=by
  unfold f382_j163
  repeat' first | with_reducible exact Le.refl _ | with_reducible apply Le.cond | with_reducible apply Le.gd | with_reducible apply Le.bind | with_reducible apply Le.lr2 | intro _
theorem m_f382_l111 (r33:((List Bool)×(List Tcheck_pair)×(PM Tcheck_pair (List Tcheck_pair))×(PM Tcheck_pair Int))) (y67_2:Int) (y67_3:(PM Tcheck_pair Int)) (k:Nat):∀ (s0:Int),Le (f382_l111 r33 y67_2 y67_3 k s0) (f382_l111 r33 y67_2 y67_3 (k + 1) s0):=by
  induction k with
  | zero=>intros; exact Le.none
  | succ k ih =>
    intros
    rw [f382_l111,f382_l111]
    repeat' first | with_reducible exact Le.refl _ | with_reducible apply Le.cond | with_reducible apply Le.gd | with_reducible apply Le.bind | with_reducible apply Le.lr2 | with_reducible apply ih | intro _ | apply ih
theorem m_f382_l67 (r33:((List Bool)×(List Tcheck_pair)×(PM Tcheck_pair (List Tcheck_pair))×(PM Tcheck_pair Int))) (k:Nat):∀ (s0:Bool) (s1:Int) (s2:(PM Tcheck_pair Int)),Le (f382_l67 r33 k s0 s1 s2) (f382_l67 r33 (k + 1) s0 s1 s2):=by
  induction k with
  | zero=>intros; exact Le.none
  | succ k ih =>
    intros
    rw [f382_l67,f382_l67]
    repeat' first | with_reducible exact Le.refl _ | with_reducible apply Le.cond | with_reducible apply Le.gd | with_reducible apply Le.bind | with_reducible apply Le.lr2 | with_reducible apply ih | with_reducible apply m_f382_l111 | intro _ | apply ih | apply m_f382_l111
theorem m_f382_l40 (r33:((List Bool)×(List Tcheck_pair)×(PM Tcheck_pair (List Tcheck_pair))×(PM Tcheck_pair Int))) (k:Nat):∀ (s0:Bool) (s1:(PM Tcheck_pair Int)),Le (f382_l40 r33 k s0 s1) (f382_l40 r33 (k + 1) s0 s1):=by
  induction k with
  | zero=>intros; exact Le.none
  | succ k ih =>
    intros
    rw [f382_l40,f382_l40]
    repeat' first | with_reducible exact Le.refl _ | with_reducible apply Le.cond | with_reducible apply Le.gd | with_reducible apply Le.bind | with_reducible apply Le.lr2 | with_reducible apply ih | with_reducible apply m_f382_l67 | intro _ | apply ih | apply m_f382_l67
theorem m_f382 (k:Nat) (a0:TSchema) (a1:TSchema):Le (f382 k a0 a1) (f382 (k + 1) a0 a1):=by
  unfold f382
  repeat' first | with_reducible exact Le.refl _ | with_reducible apply Le.cond | with_reducible apply Le.gd | with_reducible apply Le.bind | with_reducible apply Le.lr2 | with_reducible apply m_f382_j163 | with_reducible apply m_f382_l40 | with_reducible apply m_f383 | intro _ | apply m_f382_j163 | apply m_f382_l40 | apply m_f383
end Go.Proofs.Abs
end
section
namespace Go.Proofs.Abs
open Go
set_option linter.unusedVariables false
set_option maxRecDepth 100000
def NN:Nat:=10000000
def SOk (s:TSchema):Prop:=Inv s.fNodes∧s.fNodes≠[]
theorem parsed_l (a:List (List UInt8)) (ha:a.length≤1048576):∀ (q K:Nat) (l:List TSchema) (n:Int),((a.length:Nat):Int) - n≤(q:Int)→0≤n→n≤((a.length:Nat):Int)→(l.length:Int) = n→(∀ s∈l,SOk s)→q + 7000001≤K →
    ∃ z,f387_l15 a K l n = some z∧((∃ l',z = .b0 l'∧l'.length = a.length∧∀ s∈l',SOk s)∨z = .r ([],false)):=by
  intro q
  induction q with
  | zero =>
    intro K l n hq h0 h1 hl hs hK
    obtain ⟨K,rfl⟩:∃ j,K = j + 1:=⟨K - 1,by omega⟩
    exact ⟨_,by rw [f387_l15,cdn (by omega)],.inl ⟨l,rfl,by omega,hs⟩⟩
  | succ q ih =>
    intro K l n hq h0 h1 hl hs hK
    obtain ⟨K,rfl⟩:∃ j,K = j + 1:=⟨K - 1,by omega⟩
    rw [f387_l15]
    by_cases c:n < ((a.length:Nat):Int)
    · obtain ⟨e,ns,g1,g2⟩:=schema_at (rd a n) K (by omega)
      rw [cdp c,gdp ⟨h0,c⟩,g1,Option.bind_some,gdp ⟨h0,c⟩]
      have no:∃ z,(some (.r (([]:List TSchema),false)):Option (LR2 (List TSchema) Unit ((List TSchema)×Bool))) = some z∧((∃ l',z = .b0 l'∧l'.length = a.length∧∀ s∈l',SOk s)∨z = .r ([],false)):=⟨_,rfl,.inr rfl⟩
      by_cases c1:(((rd a n).length:Nat):Int) > 2000
      · rw [cdp c1]; exact no
      rw [cdn c1]
      show ∃ z,cond (decide (e≠0)) _ (cond (decide (((ns.length:Nat):Int) > 15)) _ (gd ((l.length + 1) * 2 * 24≤281474976710656) (f387_l15 a K (l ++ [TSchema.mk ns]) (IntKind.i64.wrap (n + 1))))) = some z∧_
      by_cases c2:e≠0
      · rw [cdp c2]; exact no
      rw [cdn c2]
      by_cases c3:((ns.length:Nat):Int) > 15
      · rw [cdp c3]; exact no
      rw [cdn c3,gdp (by omega),i64w (n:=n + 1) (by omega)]
      refine ih K _ (n + 1) (by omega) (by omega) (by omega) (by rw [List.length_append,List.length_singleton]; omega) (fun s hs'=>?_) (by omega)
      rcases List.mem_append.1 hs' with h | h
      · exact hs s h
      · rw [List.mem_singleton.1 h]
        exact g2 (Classical.byContradiction fun h=>c2 h)
    · rw [cdn c]
      exact ⟨_,rfl,.inl ⟨l,rfl,by omega,hs⟩⟩
theorem parsed_t (a:List (List UInt8)) (ha:a.length≤1048576):∃ l ok,f387 NN a = some (l,ok)∧(ok = true→l.length = a.length∧∀ s∈l,SOk s):=by
  unfold f387
  obtain ⟨z,h1,h2⟩:=parsed_l a ha a.length NN [] 0 (by omega) (by omega) (by omega) (by simp) (fun s h=>(List.not_mem_nil h).elim) (by unfold NN; omega)
  rw [h1,Option.bind_some]
  rcases h2 with ⟨l',rfl,g1,g2⟩ | rfl
  · exact ⟨l',_,rfl,fun _=>⟨g1,g2⟩⟩
  · exact ⟨[],false,rfl,fun h=>by cases h⟩
theorem awake_t:f483 NN = some true:=by kernel_rfl
def Rs (a b:TSchema):Bool:=(f382 NN a b).getD false
theorem reads_s {a b:TSchema} (ha:SOk a) (hb:SOk b) {K:Nat} (h1:4400000≤K) (h2:K≤NN):f382 K a b = some (Rs a b):=by
  obtain ⟨r,hr⟩:=reads_t (ns:=a.fNodes) (ms:=b.fNodes) ha.1 hb.1 K h1
  have hr:f382 K a b = some r:=hr
  have h:=Le.steps (f:=fun k=>f382 k a b) (fun k=>m_f382 k a b) h2 r hr
  have:Rs a b = r:=by unfold Rs; rw [show f382 NN a b = some r from h]; rfl
  rw [hr,this]
def okS (u v:Bool) (s x:TSchema):Bool:=(!u || Rs x s) && (!v || Rs s x)
theorem step_s {u v:Bool} {L:Int→Option (LR2 Int Unit Int)} {xs:List TSchema} {i:Int} {s:TSchema} (hx:SOk (rd xs i)) (hs:SOk s) {K:Nat} (h1:4400000≤K) (h2:K≤NN):f486_j83 L K (u,v) xs i s = cond (okS u v s (rd xs i)) (L (IntKind.i64.wrap (i + 1))) (some (.b0 i)):=by
  unfold f486_j83 okS
  show cond u (Option.bind (f382 K (rd xs i) s) _) (cond v (Option.bind (f382 K s (rd xs i)) _) _) = _
  rw [reads_s hx hs h1 h2,reads_s hs hx h1 h2]
  cases u <;> cases v <;> cases Rs (rd xs i) s <;> cases Rs s (rd xs i) <;> rfl
theorem first_all {u v:Bool} {xs:List TSchema} {s:TSchema} {n:Int} (hn:n ≥ 4) (hx:∀ x∈xs,SOk x) (hs:SOk s) (hl:xs.length≤1048576):∀ (q K:Nat) (i:Int),((xs.length:Nat):Int) - i≤(q:Int)→0≤i→q + 4400001≤K→K≤NN →
    (∀ j:Int,0≤j→j < i→okS u v s (rd xs j) = true)→∃ r:Int,f486_l46 xs n (u,v) s K i = some (.b0 r)∧(r < 0↔∀ j:Int,0≤j→j < ((xs.length:Nat):Int)→okS u v s (rd xs j) = true):=by
  have step:∀ (K:Nat) (i:Int),0≤i→4400000≤K→K≤NN→(∀ j:Int,0≤j→j < i→okS u v s (rd xs j) = true) →
      (i < ((xs.length:Nat):Int)→okS u v s (rd xs i) = true→∃ r:Int,f486_l46 xs n (u,v) s K (i + 1) = some (.b0 r)∧(r < 0↔∀ j:Int,0≤j→j < ((xs.length:Nat):Int)→okS u v s (rd xs j) = true)) →
      ∃ r:Int,f486_l46 xs n (u,v) s (K + 1) i = some (.b0 r)∧(r < 0↔∀ j:Int,0≤j→j < ((xs.length:Nat):Int)→okS u v s (rd xs j) = true):=by
    intro K i h0 hK hK2 hp hn'
    rw [f486_l46]
    by_cases c:i < ((xs.length:Nat):Int)
    · rw [cdp c,gdp ⟨h0,c⟩,show (!(decide (n ≥ (4:Int)))) = false by rw [decide_eq_true hn]; rfl,cond_false,step_s (hx _ (rd_mem h0 c)) hs hK hK2,i64w (n:=i + 1) (by omega)]
      cases ho:okS u v s (rd xs i) with
      | true=>exact hn' c ho
      | false =>
        refine ⟨i,rfl,fun h=>by omega,fun h=>?_⟩
        rw [h i h0 c] at ho; cases ho
    · rw [cdn c]
      exact ⟨-1,rfl,fun _ j h1 h2=>hp j h1 (by omega),fun _=>by decide⟩
  intro q
  induction q with
  | zero =>
    intro K i hq h0 hK hK2 hp
    obtain ⟨K,rfl⟩:∃ j,K = j + 1:=⟨K - 1,by omega⟩
    exact step K i h0 (by omega) (by omega) hp (fun h _=>by omega)
  | succ q ih =>
    intro K i hq h0 hK hK2 hp
    obtain ⟨K,rfl⟩:∃ j,K = j + 1:=⟨K - 1,by omega⟩
    refine step K i h0 (by omega) (by omega) hp (fun h ho=>ih K (i + 1) (by omega) (by omega) (by omega) (by omega) (fun j h1 h2=>?_))
    by_cases hj:j = i
    · rw [hj]; exact ho
    · exact hp j h1 (by omega)
theorem first_last {u v:Bool} {xs:List TSchema} {s:TSchema} {n:Int} (hn:¬ n ≥ 4) (hx:∀ x∈xs,SOk x) (hs:SOk s) (hl:xs.length≤1048576) (hp:0 < xs.length):∀ (q K:Nat) (i:Int),((xs.length:Nat):Int) - 1 - i≤(q:Int)→0≤i→i < ((xs.length:Nat):Int)→q + 4400002≤K→K≤NN →
    f486_l46 xs n (u,v) s K i = some (.b0 (if okS u v s (rd xs (((xs.length:Nat):Int) - 1)) = true then -1 else ((xs.length:Nat):Int) - 1)):=by
  have step:∀ (K:Nat) (i:Int),0≤i→i < ((xs.length:Nat):Int)→4400001≤K→K≤NN→(i < ((xs.length:Nat):Int) - 1→f486_l46 xs n (u,v) s K (i + 1) = some (.b0 (if okS u v s (rd xs (((xs.length:Nat):Int) - 1)) = true then -1 else ((xs.length:Nat):Int) - 1))) →
      f486_l46 xs n (u,v) s (K + 1) i = some (.b0 (if okS u v s (rd xs (((xs.length:Nat):Int) - 1)) = true then -1 else ((xs.length:Nat):Int) - 1)):=by
    intro K i h0 h1 hK hK2 hs'
    rw [f486_l46,cdp h1,gdp ⟨h0,h1⟩,show (!(decide (n ≥ (4:Int)))) = true by rw [decide_eq_false hn]; rfl,cond_true,i64w (n:=((xs.length:Nat):Int) - 1) (by omega),i64w (n:=i + 1) (by omega)]
    by_cases c:i < ((xs.length:Nat):Int) - 1
    · rw [cdp c]; exact hs' c
    · have hi:i = ((xs.length:Nat):Int) - 1:=by omega
      rw [cdn c,step_s (hx _ (rd_mem h0 h1)) hs (by omega) hK2,←hi]
      cases ho:okS u v s (rd xs i) with
      | true =>
        rw [cond_true,i64w (n:=i + 1) (by omega)]
        obtain ⟨K,rfl⟩:∃ j,K = j + 1:=⟨K - 1,by omega⟩
        rw [f486_l46,cdn (by omega)]
        rfl
      | false=>rfl
  intro q
  induction q with
  | zero =>
    intro K i hq h0 h1 hK hK2
    obtain ⟨K,rfl⟩:∃ j,K = j + 1:=⟨K - 1,by omega⟩
    exact step K i h0 h1 (by omega) (by omega) (fun h=>by omega)
  | succ q ih =>
    intro K i hq h0 h1 hK hK2
    obtain ⟨K,rfl⟩:∃ j,K = j + 1:=⟨K - 1,by omega⟩
    exact step K i h0 h1 (by omega) (by omega) (fun h=>ih K (i + 1) (by omega) (by omega) (by omega) (by omega) (by omega))
theorem asks_t (K:Nat) (n:Int):∃ u v,f487 K n = some (u,v):=by
  have j63:∀ a b,∃ u v,f487_j63 K a b = some (u,v):=fun a b=>⟨a,b,rfl⟩
  have j41:∀ b,∃ u v,f487_j41 K n b = some (u,v):=by
    intro b
    unfold f487_j41
    cases b
    · rw [cond_false]
      cases decide (n = (3:Int))
      · rw [cond_false]
        cases decide (n = (6:Int))
        · exact j63 _ _
        · exact j63 _ _
      · exact j63 _ _
    · exact j63 _ _
  have j25:∀ b,∃ u v,f487_j25 K n b = some (u,v):=by
    intro b
    unfold f487_j25
    cases b
    · rw [cond_false]
      cases decide (n = (2:Int))
      · exact j41 _
      · rw [cond_true]; exact j41 _
    · exact j63 _ _
  unfold f487
  cases decide (n = (1:Int))
  · exact j25 _
  · rw [cond_true]; exact j25 _
end Go.Proofs.Abs
end
section
namespace Go.Proofs.Abs
open Go
set_option linter.unusedVariables false
set_option maxRecDepth 100000
theorem u64_nn (n:Int):0≤IntKind.u64.wrap n:=by
  unfold IntKind.wrap
  simp only [IntKind.signed,IntKind.bits]
  first | exact Int.emod_nonneg _ (by decide) | (simp; omega) | omega
theorem asks_n (n:Int):∃ u v,f487 NN n = some (u,v):=asks_t NN n
theorem right_n {n:Int} (h:1≤n∧n≤6):f485 NN n = some true:=by
  unfold f485
  rw [cdp (by omega),decide_eq_true h.2]
theorem all_rd {α:Type} [Inhabited α] (f:α→Bool) (xs:List α):xs.all f = true↔∀ j:Int,0≤j→j < ((xs.length:Nat):Int)→f (rd xs j) = true:=by
  rw [List.all_eq_true]
  refine ⟨fun h j h0 h1=>h _ (rd_mem h0 h1),fun h x hx=>?_⟩
  obtain ⟨i,hi,rfl⟩:=List.getElem_of_mem hx
  have:=h (i:Int) (by omega) (by omega)
  unfold rd at this
  rwa [Int.toNat_natCast,←rd_get hi] at this
section
variable {u v:Bool} {xs:List TSchema} {s:TSchema} {n:Int}
theorem may_all (h1:1≤n∧n≤6) (hn:n ≥ 4) (hq:f487 NN n = some (u,v)) (hx:∀ x∈xs,SOk x) (hs:SOk s) (hl:xs.length≤1048576):f484 NN n xs s = some (xs.all (okS u v s)):=by
  unfold f484 f486
  rw [right_n h1,Option.bind_some,cond_true,Option.bind_some,Bool.not_true,cond_false,hq,Option.bind_some]
  obtain ⟨r,g1,g2⟩:=first_all (u:=u) (v:=v) hn hx hs hl xs.length NN 0 (by omega) (by omega) (by unfold NN; omega) (Nat.le_refl _) (fun j h1 h2=>by omega)
  rw [g1,Option.bind_some]
  show some (decide (r < 0)) = _
  rw [←all_rd] at g2
  congr 1
  rw [Bool.eq_iff_iff,decide_eq_true_eq,g2]
theorem first_n (h1:1≤n∧n≤6) (hn:¬ n ≥ 4) (hq:f487 NN n = some (u,v)) (hx:∀ x∈xs,SOk x) (hs:SOk s) (hl:xs.length≤1048576) (hp:0 < xs.length):f486 NN n xs s = some (if okS u v s (rd xs (((xs.length:Nat):Int) - 1)) = true then -1 else ((xs.length:Nat):Int) - 1):=by
  unfold f486
  rw [right_n h1,Option.bind_some,Bool.not_true,cond_false,hq,Option.bind_some]
  rw [first_last hn hx hs hl hp xs.length NN 0 (by omega) (by omega) (by omega) (by unfold NN; omega) (Nat.le_refl _),Option.bind_some]
theorem may_last (h1:1≤n∧n≤6) (hn:¬ n ≥ 4) (hq:f487 NN n = some (u,v)) (hx:∀ x∈xs,SOk x) (hs:SOk s) (hl:xs.length≤1048576) (hp:0 < xs.length):f484 NN n xs s = some (okS u v s (rd xs (((xs.length:Nat):Int) - 1))):=by
  unfold f484
  rw [right_n h1,Option.bind_some,cond_true,first_n h1 hn hq hx hs hl hp,Option.bind_some]
  congr 1
  cases okS u v s (rd xs (((xs.length:Nat):Int) - 1)) with
  | true=>rfl
  | false =>
    simp only [Bool.false_eq_true,if_false]
    exact decide_eq_false (by omega)
end
theorem law_LevelGrows (a0:Int) (a1:List (List UInt8)) (a2:List UInt8) (a3:Int) (w0:-9223372036854775808≤a0∧a0≤9223372036854775807) (w1:∀ e0∈a1,True) (w2:True) (w3:-9223372036854775808≤a3∧a3≤9223372036854775807)
    (hb:1 + ((a1.map (fun s=>s.length + 1)).sum + 1) + (a2.length + 1) + 1≤1048576):∃ k,f389 k a0 a1 a2 a3 = some true:=by
  refine ⟨NN,?_⟩
  have hl:a1.length≤1048576:=by
    have:a1.length≤(a1.map (fun s=>s.length + 1)).sum:=(keys_ge a1).1
    omega
  obtain ⟨xs,ok,g1,g2⟩:=parsed_t a1 hl
  obtain ⟨ys,ok2,e1,e2⟩:=parsed_t [a2] (by simp)
  unfold f389
  rw [g1,Option.bind_some,e1,Option.bind_some,awake_t]
  show cond (!ok) _ (cond (!ok2) _ (cond (decide (((xs.length:Nat):Int) = 0)) _ _)) = some true
  cases ok with
  | false=>rfl
  | true =>
  cases ok2 with
  | false=>rfl
  | true =>
  rw [Bool.not_true,cond_false,cond_false]
  obtain ⟨x1,x2⟩:=g2 rfl
  obtain ⟨y1,y2⟩:=e2 rfl
  by_cases c0:((xs.length:Nat):Int) = 0
  · rw [cdp c0]; rfl
  rw [cdn c0]
  have hs:SOk (rd ys 0):=y2 _ (rd_mem (Int.le_refl _) (by rw [y1]; simp))
  have hy:0≤(0:Int)∧(0:Int) < ((ys.length:Nat):Int):=⟨Int.le_refl _,by rw [y1]; simp⟩
  show gd (IntKind.u64.wrap (IntKind.i64.wrap (((xs.length:Nat):Int) + 1))≠0) _ = some true
  rw [i64w (n:=((xs.length:Nat):Int) + 1) (by omega),u64w (n:=((xs.length:Nat):Int) + 1) (by omega),gdp (by omega)]
  obtain ⟨n,hn⟩:∃ n,n = IntKind.i64.wrap ((1:Int) + (IntKind.i64.wrap (Int.tmod (IntKind.u64.wrap a0) (6:Int)))):=⟨_,rfl⟩
  obtain ⟨c,hc⟩:∃ c,c = IntKind.i64.wrap (Int.tmod (IntKind.u64.wrap a3) (((xs.length:Nat):Int) + 1)):=⟨_,rfl⟩
  have hn1:1≤n∧n≤6:=by
    have h0:=u64_nn a0
    have e:Int.tmod (IntKind.u64.wrap a0) 6 = IntKind.u64.wrap a0 % 6:=Int.tmod_eq_emod_of_nonneg h0
    rw [hn,e,i64w (n:=IntKind.u64.wrap a0 % 6) (by omega),i64w (by omega)]
    omega
  have hc1:0≤c∧c≤((xs.length:Nat):Int):=by
    have h0:=u64_nn a3
    have e:Int.tmod (IntKind.u64.wrap a3) (((xs.length:Nat):Int) + 1) = IntKind.u64.wrap a3 % (((xs.length:Nat):Int) + 1):=Int.tmod_eq_emod_of_nonneg h0
    have m1:=Int.emod_nonneg (IntKind.u64.wrap a3) (show ((xs.length:Nat):Int) + 1≠0 by omega)
    have m2:=Int.emod_lt_of_pos (IntKind.u64.wrap a3) (show 0 < ((xs.length:Nat):Int) + 1 by omega)
    rw [hc,e,i64w (by omega)]
    omega
  rw [←hn,←hc]
  obtain ⟨u,v,hq⟩:=asks_n n
  have hx0:0 < xs.length:=by omega
  by_cases c4:n ≥ 4
  · have t1:∀ x∈sl xs 0 c,SOk x:=fun x hx=>x2 x (List.mem_of_mem_take (List.mem_of_mem_drop hx))
    have t2:∀ x∈sl xs c ((xs.length:Nat):Int),SOk x:=fun x hx=>x2 x (List.mem_of_mem_take (List.mem_of_mem_drop hx))
    have l1:(sl xs 0 c).length≤xs.length:=by unfold sl; rw [List.length_drop,List.length_take]; omega
    have l2:(sl xs c ((xs.length:Nat):Int)).length≤xs.length:=by unfold sl; rw [List.length_drop,List.length_take]; omega
    have hcat:xs.all (okS u v (rd ys 0)) = ((sl xs 0 c).all (okS u v (rd ys 0)) && (sl xs c ((xs.length:Nat):Int)).all (okS u v (rd ys 0))):=by
      rw [←List.all_append]
      congr 1
      unfold sl
      rw [Int.toNat_natCast,List.take_length,Int.toNat_zero,List.drop_zero,List.take_append_drop]
    rw [cdp c4,Option.bind_some,cond_true,gdp hy,may_all hn1 c4 hq x2 hs (by omega),Option.bind_some]
    rw [gdp ⟨Int.le_refl _,hc1⟩,gdp hy,may_all hn1 c4 hq t1 hs (by omega),Option.bind_some,gdp ⟨hc1.1,hc1.2,Int.le_refl _⟩,gdp hy,may_all hn1 c4 hq t2 hs (by omega),hcat]
    cases (sl xs 0 c).all (okS u v (rd ys 0)) <;> cases (sl xs c ((xs.length:Nat):Int)).all (okS u v (rd ys 0)) <;> rfl
  · have hsl:sl xs (((xs.length:Nat):Int) - 1) ((xs.length:Nat):Int) = [rd xs (((xs.length:Nat):Int) - 1)]:=by
      unfold sl rd
      rw [Int.toNat_natCast,List.take_length]
      have h1:(((xs.length:Nat):Int) - 1).toNat = xs.length - 1:=by omega
      rw [h1,List.drop_eq_getElem_cons (by omega),rd_get (by omega)]
      congr 1
      rw [show xs.length - 1 + 1 = xs.length by omega,List.drop_length]
    have hl1:SOk (rd xs (((xs.length:Nat):Int) - 1)):=x2 _ (rd_mem (by omega) (by omega))
    rw [cdn c4,Option.bind_some,cond_true,gdp hy,may_last hn1 c4 hq x2 hs (by omega) hx0,Option.bind_some,i64w (n:=((xs.length:Nat):Int) - 1) (by omega),gdp (show 0≤((xs.length:Nat):Int) - 1∧((xs.length:Nat):Int) - 1≤((xs.length:Nat):Int)∧((xs.length:Nat):Int)≤((xs.length:Nat):Int) by omega),gdp hy,hsl,
      may_last hn1 c4 hq (fun x hx=>by rw [List.mem_singleton.1 hx]; exact hl1) hs (by simp) (by simp),Option.bind_some]
    rw [show rd [rd xs (((xs.length:Nat):Int) - 1)] (((([rd xs (((xs.length:Nat):Int) - 1)]:List TSchema).length:Nat):Int) - 1) = rd xs (((xs.length:Nat):Int) - 1) from rfl]
    rw [show (okS u v (rd ys 0) (rd xs (((xs.length:Nat):Int) - 1)) == okS u v (rd ys 0) (rd xs (((xs.length:Nat):Int) - 1))) = true by simp,cond_true,gdp hy,first_n hn1 c4 hq x2 hs (by omega) hx0,Option.bind_some,Option.bind_some,gdp hy]
    cases okS u v (rd ys 0) (rd xs (((xs.length:Nat):Int) - 1)) with
    | true=>rfl
    | false =>
      simp only [Bool.false_eq_true,if_false]
      rw [cdn (by omega)]
      simp
end Go.Proofs.Abs
end

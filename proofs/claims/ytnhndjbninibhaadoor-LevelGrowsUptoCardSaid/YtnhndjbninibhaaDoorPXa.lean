import Derived.Test.YtnhndjbninibhaaDoorZGWge
import Derived.Lib.ValidLaws
import Derived.Test.YtnhndjbninibhaaDoorAbsxb
import Derived.Test.YtnhndjbninibhaaDoorAbsxd
set_option linter.unusedVariables false
set_option linter.unusedSimpArgs false
set_option linter.unusedSectionVars false
section
namespace Go.Proofs.Abs
open Go
set_option linter.unusedVariables false
set_option maxRecDepth 100000
def At (s:List UInt8) (n:Int) (R:List UInt8):Prop:=∃ P,s = P ++ R∧n = ((P.length:Nat):Int)
theorem At.len {s R:List UInt8} {n:Int} (h:At s n R):0≤n∧((s.length:Nat):Int) = n + ((R.length:Nat):Int):=by
  obtain ⟨P,rfl,rfl⟩:=h
  simp
theorem At.get {s R:List UInt8} {n:Int} {c:UInt8} (h:At s n (c :: R)):s.getD n.toNat 0 = c:=by
  obtain ⟨P,rfl,rfl⟩:=h
  simp
theorem At.next {s R:List UInt8} {n:Int} {c:UInt8} (h:At s n (c :: R)):At s (n + 1) R:=by
  obtain ⟨P,rfl,rfl⟩:=h
  exact ⟨P ++ [c],by simp,by simp⟩
theorem At.sl {s R:List UInt8} {n:Int} (h:At s n R):sl s n ((s.length:Nat):Int) = R:=by
  obtain ⟨P,rfl,rfl⟩:=h
  unfold Abs.sl
  rw [Int.toNat_natCast,Int.toNat_natCast,List.take_length]
  simp
theorem At.of (s:List UInt8) {n:Int} (h0:0≤n) (h1:n≤((s.length:Nat):Int)):At s n (s.drop n.toNat) :=
  ⟨s.take n.toNat,(List.take_append_drop _ _).symm,by rw [List.length_take]; omega⟩
theorem sl_len2 {α:Type} (s:List α) {a b:Int} (h0:0≤a) (h1:a≤b) (h2:b≤((s.length:Nat):Int)):((Abs.sl s a b).length:Int) = b - a:=by
  unfold Abs.sl
  rw [List.length_drop,List.length_take]
  omega
theorem u8I_cons (c:UInt8) (t:List UInt8):u8I (c :: t) = (((Lib.decodeL (c :: t)).1:Int),((Lib.decodeL (c :: t)).2:Int)):=by
  have:¬ (ByteArray.mk (c :: t).toArray).size = 0:=by simp [ByteArray.size]
  unfold u8I Lib.decodeGo Lib.decodeL
  rw [if_neg this]
theorem dec_any (c:UInt8) (t:List UInt8):∃ r w:Nat,u8I (c :: t) = ((r:Int),(w:Int))∧1≤w∧w≤(c :: t).length:=by
  refine ⟨(Lib.decodeL (c :: t)).1,(Lib.decodeL (c :: t)).2,u8I_cons c t,?_⟩
  rw [Lib.decodeL_N]
  have b1:=((c :: t).getD 1 0).toNat_lt
  have b2:=((c :: t).getD 2 0).toNat_lt
  have b3:=((c :: t).getD 3 0).toNat_lt
  show 1≤(Lib.decodeN (c :: t).length c.toNat _ _ _).2∧_
  have hl:1≤(c :: t).length:=by simp
  generalize (c :: t).length = l at *
  generalize ((c :: t).getD 1 0).toNat = x1 at *
  generalize ((c :: t).getD 2 0).toNat = x2 at *
  generalize ((c :: t).getD 3 0).toNat = x3 at *
  show 1≤(Lib.decodeN l c.toNat x1 x2 x3).2∧(Lib.decodeN l c.toNat x1 x2 x3).2≤l
  generalize c.toNat = x0 at *
  unfold Lib.decodeN
  split
  · simp only; omega
  split
  · split <;> simp only <;> omega
  · split
    · split <;> simp only <;> omega
    · split
      · split <;> simp only <;> omega
      · simp only; omega
variable {s R:List UInt8} {n:Int} {c:UInt8}
theorem white_l (hb:s.length≤20000):∀ (R:List UInt8) (n:Int) (K:Nat),At s n R→R.length + 1≤K →
    ∃ n',f297_l1 s K n = some (.b0 n')∧n≤n'∧n'≤((s.length:Nat):Int):=by
  intro R
  induction R with
  | nil =>
    intro n K h hK
    obtain ⟨K,rfl⟩:∃ j,K = j + 1:=⟨K - 1,by omega⟩
    have hl:=h.len
    rw [List.length_nil] at hl
    exact ⟨n,by rw [f297_l1,cdn (by omega)],by omega,by omega⟩
  | cons c t ih =>
    intro n K h hK
    rw [List.length_cons] at hK
    obtain ⟨K,rfl⟩:∃ j,K = j + 1:=⟨K - 1,by omega⟩
    have hl:=h.len
    rw [List.length_cons] at hl
    obtain ⟨n',h3,h4,h5⟩:=ih (n + 1) K h.next (by omega)
    have e:∀ a b c d e f,f297_j68 (f297_l1 s K) K n a b c d e f = some (.b0 n'):=by intro a b c d e f; unfold f297_j68; rw [i64w (by omega),h3]
    by_cases a1:((c.toNat:Nat):Int) = 32
    · exact ⟨n',by rw [f297_l1,cdp (by omega),gdp (by omega),h.get,cdp a1,e],by omega,h5⟩
    by_cases a2:((c.toNat:Nat):Int) = 9
    · exact ⟨n',by rw [f297_l1,cdp (by omega),gdp (by omega),h.get,cdn a1,gdp (by omega),cdp a2,e],by omega,h5⟩
    by_cases a3:((c.toNat:Nat):Int) = 10
    · exact ⟨n',by rw [f297_l1,cdp (by omega),gdp (by omega),h.get,cdn a1,gdp (by omega),cdn a2,gdp (by omega),cdp a3,e],by omega,h5⟩
    by_cases a4:((c.toNat:Nat):Int) = 13
    · exact ⟨n',by rw [f297_l1,cdp (by omega),gdp (by omega),h.get,cdn a1,gdp (by omega),cdn a2,gdp (by omega),cdn a3,gdp (by omega),cdp a4,e],by omega,h5⟩
    · exact ⟨n,by rw [f297_l1,cdp (by omega),gdp (by omega),h.get,cdn a1,gdp (by omega),cdn a2,gdp (by omega),cdn a3,gdp (by omega),cdn a4],by omega,by omega⟩
theorem white_at (hb:s.length≤20000) (K:Nat) (h0:0≤n) (h1:n≤((s.length:Nat):Int)) (hK:s.length + 1≤K):∃ n',(∀ e,f297 K s n e = some n')∧n≤n'∧n'≤((s.length:Nat):Int):=by
  obtain ⟨n',h2,h3,h4⟩:=white_l hb (s.drop n.toNat) n K (At.of s h0 h1) (by rw [List.length_drop]; omega)
  exact ⟨n',fun e=>by unfold f297; rw [h2]; rfl,h3,h4⟩
theorem is_at (hb:s.length≤1000000) (K:Nat) (e:Int) (a:List UInt8) (ha:a.length≤100) (h0:0≤n) (h1:n≤((s.length:Nat):Int)) :
    ∃ b m,f299 K s n e a = some (b,m)∧n≤m∧m≤((s.length:Nat):Int)∧(b = true→m = n + ((a.length:Nat):Int))∧(b = false→m = n):=by
  unfold f299
  rw [i64w (by omega)]
  by_cases h:((s.length:Nat):Int) - n ≥ ((a.length:Nat):Int)
  · rw [cdp h,i64w (by omega),gdp (by omega)]
    by_cases h2:Abs.sl s n (n + ((a.length:Nat):Int)) = a
    · rw [decide_eq_true h2]
      unfold f299_j42
      rw [i64w (by omega)]
      exact ⟨true,_,rfl,by omega,by omega,fun _=>rfl,fun h=>by cases h⟩
    · rw [decide_eq_false h2]
      exact ⟨false,_,rfl,by omega,by omega,fun h=>(by cases h),fun _=>rfl⟩
  · rw [cdn h]
    exact ⟨false,_,rfl,by omega,by omega,fun h=>(by cases h),fun _=>rfl⟩
theorem fail_at (K:Nat) (s:List UInt8) (n e x:Int):f298 K s n e x = some (if e = 0 then x else e):=by
  unfold f298
  by_cases h:e = 0
  · rw [cdp h,if_pos h]
  · rw [cdn h,if_neg h]
def hvI (c:UInt8):Int:=if 48≤c.toNat∧c.toNat≤57 then (c.toNat:Int) - 48 else if 97≤c.toNat∧c.toNat≤102 then (c.toNat:Int) - 87 else if 65≤c.toNat∧c.toNat≤70 then (c.toNat:Int) - 55 else -1
theorem hvI_le (c:UInt8):-1≤hvI c∧hvI c≤15:=by unfold hvI; split <;> (try split) <;> (try split) <;> omega
theorem digit_fin:∀ x:Fin 256,f303 0 (UInt8.ofNat x.val) = some (hvI (UInt8.ofNat x.val)):=by decide
theorem digit_at (k:Nat) (c:UInt8):f303 k c = some (hvI c):=by
  have:=digit_fin ⟨c.toNat,c.toNat_lt⟩
  simp only [UInt8.ofNat_toNat] at this
  exact this
def lim:Nat→Int
  | 0=>65535 | 1=>4095 | 2=>255 | 3=>15 | _=>0
theorem lim_step {j:Nat} {v d:Int} (hj:j < 4) (h:v≤lim (j + 1)) (hd:d≤15):16 * v + d≤lim j:=by
  match j,hj with
  | 0,_=>simp only [lim] at *; omega
  | 1,_=>simp only [lim] at *; omega
  | 2,_=>simp only [lim] at *; omega
  | 3,_=>simp only [lim] at *; omega
theorem lim_le (j:Nat):lim j≤65535:=by unfold lim; split <;> omega
theorem four_l (hb:s.length≤20000):∀ (j:Nat) (v:Int) (n:Int) (R:List UInt8) (K:Nat),j≤4→j + 1≤K→At s n R→0≤v→v≤lim j →
    (∃ v',f302_l14 s K v (4 - (j:Int)) n = some (.b0 (v',n + (j:Int)))∧n + (j:Int)≤((s.length:Nat):Int)∧0≤v'∧v'≤65535) ∨
    ∃ n2,f302_l14 s K v (4 - (j:Int)) n = some (.r (-1,n2))∧n≤n2∧n2≤((s.length:Nat):Int)
  | 0,v,n,R,K,hj,hK,h,h0,h1=>by
    obtain ⟨K,rfl⟩:∃ i,K = i + 1:=⟨K - 1,by omega⟩
    have hl:=h.len
    refine .inl ⟨v,?_,by omega,h0,h1⟩
    rw [f302_l14,cdn (by omega)]
    simp
  | j + 1,v,n,R,K,hj,hK,h,h0,h1=>by
    obtain ⟨K,rfl⟩:∃ i,K = i + 1:=⟨K - 1,by omega⟩
    have hl:=h.len
    have hv4:=lim_le (j + 1)
    cases R with
    | nil =>
      rw [List.length_nil] at hl
      refine .inr ⟨n,?_,by omega,by omega⟩
      rw [f302_l14,cdp (by omega),cdp (by omega)]
    | cons c t =>
      rw [List.length_cons] at hl
      obtain ⟨d0,d1⟩:=hvI_le c
      by_cases hd:hvI c < 0
      · refine .inr ⟨n,?_,by omega,by omega⟩
        rw [f302_l14,cdp (by omega),cdn (by omega),gdp (by omega),h.get,digit_at,Option.bind_some,cdp hd]
      · have e:f302_l14 s (K + 1) v (4 - ((j + 1:Nat):Int)) n = f302_l14 s K (16 * v + hvI c) (4 - (j:Int)) (n + 1):=by
          rw [f302_l14,cdp (by omega),cdn (by omega),gdp (by omega),h.get,digit_at,Option.bind_some,cdn hd,gdp (by omega),Option.bind_some,i64w (n:=16 * v) (by omega),i64w (n:=16 * v + hvI c) (by omega),i64w (n:=4 - ((j + 1:Nat):Int) + 1) (by omega),i64w (n:=n + 1) (by omega),show (4:Int) - ((j + 1:Nat):Int) + 1 = 4 - (j:Int) by omega]
        rw [e]
        rcases four_l hb j (16 * v + hvI c) (n + 1) t K (by omega) (by omega) h.next (by omega) (lim_step (by omega) h1 d1) with ⟨v',g2,g3,g4,g5⟩ | ⟨n2,g2,g3,g4⟩
        · refine .inl ⟨v',?_,by omega,g4,g5⟩
          rw [g2,show n + 1 + (j:Int) = n + ((j + 1:Nat):Int) by omega]
        · exact .inr ⟨n2,g2,by omega,g4⟩
theorem four_at (hb:s.length≤20000) (K:Nat) (e:Int) (h0:0≤n) (h1:n≤((s.length:Nat):Int)) (hK:6≤K):∃ v m,f302 K s n e = some (v,m)∧n≤m∧m≤((s.length:Nat):Int)∧(v = -1∨(0≤v∧v≤65535∧m = n + 4)):=by
  rcases four_l hb 4 0 n _ K (by omega) (by omega) (At.of s h0 h1) (by omega) (by decide) with ⟨v',g2,g3,g4,g5⟩ | ⟨n2,g2,g3,g4⟩
  · refine ⟨v',n + 4,?_,by omega,by omega,.inr ⟨g4,g5,rfl⟩⟩
    unfold f302
    show Option.bind (f302_l14 s K 0 (4 - ((4:Nat):Int)) n) _ = _
    rw [g2]; rfl
  · refine ⟨-1,n2,?_,by omega,by omega,.inl rfl⟩
    unfold f302
    show Option.bind (f302_l14 s K 0 (4 - ((4:Nat):Int)) n) _ = _
    rw [g2]; rfl
theorem encL_len (v:Int):(encL v).length≤4:=by
  unfold encL Utf8.encode
  simp only
  repeat' split
  all_goals simp
def EscT (s:List UInt8) (n:Int) (o:Option ((List UInt8)×Int×Int)):Prop:=∃ t m e,o = some (t,m,e)∧n≤m∧m≤((s.length:Nat):Int)∧((t.length:Nat):Int)≤m - n + 0
theorem j207_at (K:Nat) (v m:Int) (h0:0≤n) (h1:n + 4≤m∨v < 0) (h2:n≤m) (h3:m≤((s.length:Nat):Int)) (h4:v≤65535) (h5:-1≤v):EscT s n (f301_j207 K 0 s v m):=by
  have e:EscT s n (f301_j220 K v m 0 s false):=⟨[],m,4,rfl,h2,h3,by simp; omega⟩
  unfold f301_j207
  by_cases c0:v ≥ 0
  · have t:EscT s n (f301_j220 K v m 0 s true):=by
      have:=encL_len (IntKind.i32.wrap v)
      exact ⟨_,m,0,rfl,h2,h3,by omega⟩
    rw [cdp c0]
    by_cases c1:v < 55296
    · rw [cdp c1]; exact t
    · rw [cdn c1]
      by_cases c2:v ≥ 57344
      · rw [decide_eq_true c2]; exact t
      · rw [decide_eq_false c2]; exact e
  · rw [cdn c0]; exact e
theorem j170_at (hb:s.length≤20000) (K:Nat) (hK:6≤K) (v x m:Int) (b:Bool) (h0:0≤n) (h1:n + 4≤m∨v < 0) (h2:n≤m) (h3:m≤((s.length:Nat):Int)) (h4:v≤65535) (h5:-1≤v) (h6:b = true→n + 4≤m):EscT s n (f301_j170 K s 0 (v,x) b m):=by
  unfold f301_j170
  cases b with
  | false=>exact j207_at K v m h0 h1 h2 h3 h4 h5
  | true =>
    rw [cond_true]
    obtain ⟨w,m2,g1,g2,g3,g4⟩:=four_at hb K 0 (n:=m) (by omega) h3 hK
    rw [g1,Option.bind_some]
    have f:EscT s n (f301_j187 K (v,x) (w,m2) 0 s false):=by unfold f301_j187; exact j207_at K (-1) m2 h0 (.inr (by omega)) (by omega) g3 (by omega) (by omega)
    have t:EscT s n (f301_j187 K (v,x) (w,m2) 0 s true):=by
      unfold f301_j187
      rw [cond_true]
      refine ⟨_,m2,0,rfl,by omega,g3,?_⟩
      have:=h6 rfl
      exact Int.le_trans (Int.ofNat_le.2 (encL_len _)) (by omega)
    show EscT s n (cond (decide (w ≥ 56320)) (f301_j187 K (v,x) (w,m2) 0 s (decide (w < 57344))) _)
    by_cases c1:w ≥ 56320
    · rw [cdp c1]
      cases decide (w < 57344)
      · exact f
      · exact t
    · rw [cdn c1]; exact f
theorem esc_at (hb:s.length≤20000) (K:Nat) (hK:6≤K) (h0:0≤n) (h1:n≤((s.length:Nat):Int)):EscT s n (f301 K s n 0):=by
  unfold f301
  by_cases hn:n ≥ ((s.length:Nat):Int)
  · rw [cdp hn]
    exact ⟨[],n,4,rfl,by omega,h1,by simp⟩
  rw [cdn hn,gdp (by omega)]
  have w1:IntKind.i64.wrap (n + 1) = n + 1:=i64w (by omega)
  have one:∀ x:UInt8,EscT s n (some ([x],n + 1,0)):=fun x=>⟨[x],n + 1,0,rfl,by omega,by omega,by simp; omega⟩
  have key:∀ b,EscT s n (f301_j80 K s n 0 b):=by
    intro b
    unfold f301_j80
    rw [w1]
    cases b with
    | true=>exact one _
    | false =>
      rw [cond_false]
      cases decide ((((s.getD n.toNat 0).toNat:Nat):Int) = (98:Int)) with
      | true=>exact one _
      | false =>
      rw [cond_false]
      cases decide ((((s.getD n.toNat 0).toNat:Nat):Int) = (102:Int)) with
      | true=>exact one _
      | false =>
      rw [cond_false]
      cases decide ((((s.getD n.toNat 0).toNat:Nat):Int) = (110:Int)) with
      | true=>exact one _
      | false =>
      rw [cond_false]
      cases decide ((((s.getD n.toNat 0).toNat:Nat):Int) = (114:Int)) with
      | true=>exact one _
      | false =>
      rw [cond_false]
      cases decide ((((s.getD n.toNat 0).toNat:Nat):Int) = (116:Int)) with
      | true=>exact one _
      | false =>
      rw [cond_false]
      cases decide ((((s.getD n.toNat 0).toNat:Nat):Int) = (117:Int)) with
      | false=>exact ⟨[],n + 1,4,rfl,by omega,by omega,by simp; omega⟩
      | true =>
        rw [cond_true]
        obtain ⟨v,m,g1,g2,g3,g4⟩:=four_at hb K 0 (n:=n + 1) (by omega) (by omega) hK
        rw [g1,Option.bind_some]
        have f:EscT s n (f301_j170 K s 0 (v,m) false m):=j170_at hb K hK v m m false h0 (by omega) (by omega) g3 (by omega) (by omega) (fun h=>by cases h)
        show EscT s n (cond (decide (v ≥ 55296)) (cond (decide (v < 56320)) (Option.bind (f299 K s m 0 [92,117]) _) _) _)
        by_cases c1:v ≥ 55296
        · rw [cdp c1]
          by_cases c2:v < 56320
          · rw [cdp c2]
            obtain ⟨b,m2,k1,k2,k3,k4,k5⟩:=is_at (by omega) K 0 [92,117] (by simp) (n:=m) (by omega) g3
            rw [k1,Option.bind_some]
            exact j170_at hb K hK v m m2 b h0 (by omega) (by omega) k3 (by omega) (by omega) (fun _=>by omega)
          · rw [cdn c2]; exact f
        · rw [cdn c1]; exact f
  cases decide ((((s.getD n.toNat 0).toNat:Nat):Int) = (34:Int)) with
  | true=>rw [cond_true]; exact key _
  | false =>
    rw [cond_false]
    cases decide ((((s.getD n.toNat 0).toNat:Nat):Int) = (92:Int)) with
    | true=>rw [cond_true]; exact key _
    | false=>rw [cond_false]; exact key _
end Go.Proofs.Abs
end
section
namespace Go.Proofs.Abs
open Go
set_option linter.unusedVariables false
set_option maxRecDepth 100000
variable {s:List UInt8} {n:Int}
theorem text_e (K:Nat) (y:List UInt8) (e:Int) (he:e≠0):f300_l10 s (K + 1) y n e = some (.b0 (n,e)):=by rw [f300_l10,cdn he]
theorem text_l (hb:s.length≤20000):∀ (q:Nat) (n:Int) (y:List UInt8) (K:Nat),((s.length:Nat):Int) - n≤(q:Int)→0≤n→n≤((s.length:Nat):Int)→q + 12≤K→((y.length:Nat):Int) + (((s.length:Nat):Int) - n)≤40000 →
    (∃ t m,f300_l10 s K y n 0 = some (.r (t,m,0))∧n < m∧m≤((s.length:Nat):Int)∧((t.length:Nat):Int)≤((y.length:Nat):Int) + (m - n))∨(∃ m e,f300_l10 s K y n 0 = some (.b0 (m,e))∧n≤m∧m≤((s.length:Nat):Int)∧e≠0):=by
  intro q
  induction q with
  | zero =>
    intro n y K hq h0 h1 hK hy
    obtain ⟨K,rfl⟩:∃ i,K = i + 1:=⟨K - 1,by omega⟩
    refine .inr ⟨n,4,?_,by omega,h1,by decide⟩
    rw [f300_l10,cdp rfl,cdp (by omega)]
    rfl
  | succ q ih =>
    intro n y K hq h0 h1 hK hy
    obtain ⟨K,rfl⟩:∃ i,K = i + 1:=⟨K - 1,by omega⟩
    by_cases hn:n ≥ ((s.length:Nat):Int)
    · refine .inr ⟨n,4,?_,by omega,h1,by decide⟩
      rw [f300_l10,cdp rfl,cdp hn]
      rfl
    have hA:=At.of s h0 h1
    have hl:=hA.len
    generalize hR:s.drop n.toNat = R at hA hl
    cases R with
    | nil=>rw [List.length_nil] at hl; omega
    | cons c t =>
    rw [List.length_cons] at hl
    have w1:IntKind.i64.wrap (n + 1) = n + 1:=i64w (by omega)
    by_cases c1:((c.toNat:Nat):Int) < 32
    · refine .inr ⟨n,4,?_,by omega,h1,by decide⟩
      rw [f300_l10,cdp rfl,cdn hn,gdp (by omega),hA.get,cdp c1]
      rfl
    by_cases c2:((c.toNat:Nat):Int) = 34
    · refine .inl ⟨y,n + 1,?_,by omega,by omega,by omega⟩
      rw [f300_l10,cdp rfl,cdn hn,gdp (by omega),hA.get,cdn c1,gdp (by omega),cdp c2,w1]
    by_cases c3:((c.toNat:Nat):Int) = 92
    · obtain ⟨x,m,e,g1,g2,g3,g4⟩:=esc_at hb K (by omega) (n:=n + 1) (by omega) (by omega)
      have r0:f300_l10 s (K + 1) y n 0 = f300_l10 s K (y ++ x) m e:=by
        rw [f300_l10,cdp rfl,cdn hn,gdp (by omega),hA.get,cdn c1,gdp (by omega),cdn c2,cdp c3,w1,g1,Option.bind_some,gdp (by simp only; omega)]
      rw [r0]
      by_cases he:e = 0
      · subst he
        have hyx:(((y ++ x).length:Nat):Int) = ((y.length:Nat):Int) + ((x.length:Nat):Int):=by rw [List.length_append]; omega
        rcases ih m (y ++ x) K (by omega) (by omega) g3 (by omega) (by omega) with ⟨t',m',k1,k2,k3,k4⟩ | ⟨m',e',k1,k2,k3,k4⟩
        · exact .inl ⟨t',m',k1,by omega,k3,by omega⟩
        · exact .inr ⟨m',e',k1,by omega,k3,k4⟩
      · obtain ⟨K,rfl⟩:∃ i,K = i + 1:=⟨K - 1,by omega⟩
        exact .inr ⟨m,e,text_e K _ e he,by omega,g3,he⟩
    · obtain ⟨r,w,hu,hw1,hw2⟩:=dec_any c t
      rw [List.length_cons] at hw2
      have wn:IntKind.i64.wrap (n + (w:Int)) = n + (w:Int):=i64w (by omega)
      have rr:f300_l10 s (K + 1) y n 0 = cond (decide ((r:Int) = (65533:Int))) (cond (decide ((w:Int) < (2:Int))) ((f298 K s n 0 (4:Int)).bind fun r158=>some (LR2.b0 (n,r158))) (f300_j161 (f300_l10 s K) K n ((r:Int),(w:Int)) s y 0)) (f300_j161 (f300_l10 s K) K n ((r:Int),(w:Int)) s y 0):=by
        rw [f300_l10,cdp rfl,cdn hn,gdp (by omega),hA.get,cdn c1,gdp (by omega),cdn c2,cdn c3,gdp (by omega),hA.sl]
        unfold f336
        rw [hu,Option.bind_some]
      have hsl:=sl_len2 s (a:=n) (b:=n + (w:Int)) h0 (by omega) (by omega)
      have rj:f300_j161 (f300_l10 s K) K n ((r:Int),(w:Int)) s y 0 = f300_l10 s K (y ++ Abs.sl s n (n + (w:Int))) (n + (w:Int)) 0:=by
        unfold f300_j161
        show gd (0≤n∧n≤IntKind.i64.wrap (n + (w:Int))∧IntKind.i64.wrap (n + (w:Int))≤((s.length:Nat):Int)) (gd (y.length + (Abs.sl s n (IntKind.i64.wrap (n + (w:Int)))).length≤9223372036854775807) (f300_l10 s K (y ++ Abs.sl s n (IntKind.i64.wrap (n + (w:Int)))) (IntKind.i64.wrap (n + (w:Int))) 0)) = _
        rw [wn,gdp (by omega),gdp (by omega)]
      have go:(∃ t m,f300_j161 (f300_l10 s K) K n ((r:Int),(w:Int)) s y 0 = some (.r (t,m,0))∧n < m∧m≤((s.length:Nat):Int)∧((t.length:Nat):Int)≤((y.length:Nat):Int) + (m - n))∨(∃ m e,f300_j161 (f300_l10 s K) K n ((r:Int),(w:Int)) s y 0 = some (.b0 (m,e))∧n≤m∧m≤((s.length:Nat):Int)∧e≠0):=by
        rw [rj]
        have hyx:(((y ++ Abs.sl s n (n + (w:Int))).length:Nat):Int) = ((y.length:Nat):Int) + (w:Int):=by rw [List.length_append]; omega
        rcases ih (n + (w:Int)) (y ++ Abs.sl s n (n + (w:Int))) K (by omega) (by omega) (by omega) (by omega) (by omega) with ⟨t',m',k1,k2,k3,k4⟩ | ⟨m',e',k1,k2,k3,k4⟩
        · exact .inl ⟨t',m',k1,by omega,k3,by omega⟩
        · exact .inr ⟨m',e',k1,by omega,k3,k4⟩
      rw [rr]
      by_cases c4:(r:Int) = 65533
      · rw [cdp c4]
        by_cases c5:(w:Int) < 2
        · rw [cdp c5]
          exact .inr ⟨n,4,rfl,by omega,h1,by decide⟩
        · rw [cdn c5]; exact go
      · rw [cdn c4]; exact go
theorem text_at (hb:s.length≤20000) (K:Nat) (h0:0≤n) (h1:n≤((s.length:Nat):Int)) (hK:s.length + 12≤K):∃ t m e,f300 K s n 0 = some (t,m,e)∧n≤m∧m≤((s.length:Nat):Int)∧((t.length:Nat):Int)≤m - n:=by
  unfold f300
  rcases text_l hb (((s.length:Nat):Int) - n).toNat n [] K (by omega) h0 h1 (by omega) (by simp; omega) with ⟨t,m,k1,k2,k3,k4⟩ | ⟨m,e,k1,k2,k3,k4⟩
  · rw [k1]
    exact ⟨t,m,0,rfl,by omega,k3,by simpa using k4⟩
  · rw [k1]
    exact ⟨[],m,e,rfl,k2,k3,by simp; omega⟩
theorem span_l (hb:s.length≤1000000):∀ (q:Nat) (n:Int) (K:Nat),((s.length:Nat):Int) - n≤(q:Int)→0≤n→n≤((s.length:Nat):Int)→q + 1≤K→∃ m,f350_l27 s K n = some (.b0 m)∧n≤m∧m≤((s.length:Nat):Int):=by
  intro q
  induction q with
  | zero =>
    intro n K hq h0 h1 hK
    obtain ⟨K,rfl⟩:∃ i,K = i + 1:=⟨K - 1,by omega⟩
    exact ⟨n,by rw [f350_l27,cdn (by omega)],by omega,h1⟩
  | succ q ih =>
    intro n K hq h0 h1 hK
    obtain ⟨K,rfl⟩:∃ i,K = i + 1:=⟨K - 1,by omega⟩
    by_cases hn:n < ((s.length:Nat):Int)
    · by_cases c1:(((s.getD n.toNat 0).toNat:Nat):Int) ≥ 48
      · by_cases c2:(((s.getD n.toNat 0).toNat:Nat):Int)≤57
        · obtain ⟨m,g1,g2,g3⟩:=ih (n + 1) K (by omega) (by omega) (by omega) (by omega)
          exact ⟨m,by rw [f350_l27,cdp hn,gdp (by omega),cdp c1,gdp (by omega),cdp c2,i64w (by omega),g1],by omega,g3⟩
        · exact ⟨n,by rw [f350_l27,cdp hn,gdp (by omega),cdp c1,gdp (by omega),cdn c2],by omega,h1⟩
      · exact ⟨n,by rw [f350_l27,cdp hn,gdp (by omega),cdn c1],by omega,h1⟩
    · exact ⟨n,by rw [f350_l27,cdn hn],by omega,h1⟩
theorem num_at (hb:s.length≤1000000) (K:Nat) (e:Int) (h0:0≤n) (h1:n≤((s.length:Nat):Int)) (hK:s.length + 2≤K):∃ t m e',f350 K s n e = some (t,m,e')∧n≤m∧m≤((s.length:Nat):Int)∧(e' = 0→n < m∧t≠[]∧((t.length:Nat):Int)≤m - n)∧(e≠0→e'≠0):=by
  unfold f350
  obtain ⟨b,m1,a1,a2,a3,_,_⟩:=is_at hb K e [45] (by simp) h0 h1
  rw [a1,Option.bind_some]
  obtain ⟨m2,g1,g2,g3⟩:=span_l hb (((s.length:Nat):Int) - m1).toNat m1 K (by omega) (by omega) a3 (by omega)
  show ∃ t m e',Option.bind (f350_l27 s K m1) _ = _∧_
  rw [g1,Option.bind_some]
  have jt:∃ t m e',f350_j114 K s m2 e n true = some (t,m,e')∧n≤m∧m≤((s.length:Nat):Int)∧(e' = 0→n < m∧t≠[]∧((t.length:Nat):Int)≤m - n)∧(e≠0→e'≠0):=by
    unfold f350_j114
    rw [cond_true,fail_at,Option.bind_some]
    refine ⟨[],m2,_,rfl,by omega,g3,fun h=>?_,fun h=>by rw [if_neg h]; exact h⟩
    split at h
    · cases h
    · exact absurd h (by assumption)
  have jf:m1 < m2→∃ t m e',f350_j114 K s m2 e n false = some (t,m,e')∧n≤m∧m≤((s.length:Nat):Int)∧(e' = 0→n < m∧t≠[]∧((t.length:Nat):Int)≤m - n)∧(e≠0→e'≠0):=by
    intro hlt
    have hsl:=sl_len2 s (a:=n) (b:=m2) h0 (by omega) g3
    unfold f350_j114
    rw [cond_false,gdp (by omega)]
    by_cases e5:Abs.sl s n m2 = [45,48]
    · rw [cdp e5]
      rw [e5] at hsl
      exact ⟨[48],m2,e,rfl,by omega,g3,fun _=>⟨by omega,by simp,by simp at hsl ⊢; omega⟩,fun h=>h⟩
    · rw [cdn e5,gdp (by omega)]
      refine ⟨_,m2,e,rfl,by omega,g3,fun _=>⟨by omega,fun h=>?_,by omega⟩,fun h=>h⟩
      rw [h] at hsl
      simp at hsl
      omega
  show ∃ t m e',cond (decide ((IntKind.i64.wrap (m2 - m1)) < (1:Int))) (f350_j114 K s m2 e n true) (cond (decide ((IntKind.i64.wrap (m2 - m1)) > (19:Int))) (f350_j114 K s m2 e n true) (cond (decide ((IntKind.i64.wrap (m2 - m1)) > (1:Int))) (gd (0≤m1∧m1 < ((s.length:Nat):Int)) (f350_j114 K s m2 e n (decide ((((s.getD m1.toNat 0).toNat:Nat):Int) = (48:Int))))) (f350_j114 K s m2 e n false))) = some (t,m,e')∧_
  rw [i64w (by omega)]
  by_cases l0:m2 - m1 < 1
  · rw [cdp l0]; exact jt
  rw [cdn l0]
  by_cases l1:m2 - m1 > 19
  · rw [cdp l1]; exact jt
  rw [cdn l1]
  by_cases l2:m2 - m1 > 1
  · rw [cdp l2,gdp (by omega)]
    cases decide ((((s.getD m1.toNat 0).toNat:Nat):Int) = (48:Int))
    · exact jf (by omega)
    · exact jt
  · rw [cdn l2]; exact jf (by omega)
def jbk (v:TJson):Nat:=D.bk (TJson.enc v)
theorem jbk_eq (v:TJson) (us:List TJson) (h:v.fL = us.map (RT.of TJson.ok)):jbk v = 5 + v.fText.length + (us.map jbk).sum + (v.fKeys.map fun x=>x.length + 1).sum:=by
  have e1:List.map D.bk (List.map (rtE (z:=4)) v.fL) = us.map jbk:=by rw [h,List.map_map,List.map_map]; rfl
  have e2:List.map D.bk (List.map D.str v.fKeys) = v.fKeys.map fun x=>x.length + 1:=by
    rw [List.map_map]; rfl
  have e3:jbk v = 1 + ((v.fText.length + 1) + (((List.map D.bk (List.map (rtE (z:=4)) v.fL)).sum + 1) + (((List.map D.bk (List.map D.str v.fKeys)).sum + 1) + 0))) + 1:=by
    show D.bk (TJson.enc v) = _
    simp only [TJson.enc,D.bk,D.bk.bkL,bkL_sum]
  rw [e3,e1,e2]
  omega
theorem jbk_leaf (k:Int) (t:List UInt8):jbk ⟨k,t,[],[]⟩ = 5 + t.length:=by
  rw [jbk_eq _ [] rfl]; simp
def TJ:Nat→TJson→Prop
  | 0,_=>False
  | h + 1,v=>(v.fKind = 4→v.fText≠[])∧(v.fKind = 7→v.fKeys.length = v.fL.length)∧∃ us:List TJson,v.fL = us.map (RT.of TJson.ok)∧∀ u∈us,TJ h u
theorem TJ.leaf (h:Nat) (k:Int) (t:List UInt8) (hk:k = 4→t≠[]):TJ (h + 1) ⟨k,t,[],[]⟩:=⟨hk,fun _=>rfl,[],rfl,fun u h=>by cases h⟩
theorem TJ.up:∀ {h:Nat} {v:TJson},TJ h v→TJ (h + 1) v
  | 0,v,hv=>hv.elim
  | h + 1,v,⟨h1,h2,us,h3,h4⟩=>⟨h1,h2,us,h3,fun u hu=>(h4 u hu).up⟩
theorem TJ.mono {v:TJson}:∀ {h h':Nat},h≤h'→TJ h v→TJ h' v:=by
  intro h h' hle
  induction hle with
  | refl=>exact id
  | step _ ih=>exact fun hv=>(ih hv).up
theorem in_at (ks:List (List UInt8)) (q:List UInt8) (hb:ks.length≤1000000):∀ (j:Nat) (K:Nat) (i:Int),((ks.length:Nat):Int) - i≤(j:Int)→0≤i→j + 1≤K→∃ z,f77_l10 ks q K i = some z∧(z = .r true∨z = .b0 ()):=by
  intro j
  induction j with
  | zero =>
    intro K i hj h0 hK
    obtain ⟨K,rfl⟩:∃ j,K = j + 1:=⟨K - 1,by omega⟩
    exact ⟨.b0 (),by rw [f77_l10,cdn (by omega)],.inr rfl⟩
  | succ j ih =>
    intro K i hj h0 hK
    obtain ⟨K,rfl⟩:∃ j,K = j + 1:=⟨K - 1,by omega⟩
    by_cases hi:i < ((ks.length:Nat):Int)
    · rw [f77_l10,cdp hi,gdp (by omega)]
      by_cases hx:rd ks i = q
      · rw [cdp hx]; exact ⟨_,rfl,.inl rfl⟩
      · rw [cdn hx,i64w (by omega)]
        exact ih K (i + 1) (by omega) (by omega) (by omega)
    · exact ⟨.b0 (),by rw [f77_l10,cdn hi],.inr rfl⟩
theorem has_at (K:Nat) (ks:List (List UInt8)) (q:List UInt8) (hb:ks.length≤1000000) (hK:ks.length + 1≤K):∃ b,f77 K ks q = some b:=by
  obtain ⟨z,h1,h2⟩:=in_at ks q hb ks.length K 0 (by omega) (by omega) hK
  unfold f77
  rw [h1,Option.bind_some]
  rcases h2 with rfl | rfl
  · exact ⟨_,rfl⟩
  · exact ⟨_,rfl⟩
end Go.Proofs.Abs
end
section
namespace Go.Proofs.Abs
open Go
set_option linter.unusedVariables false
set_option maxRecDepth 100000
variable {s:List UInt8} {n:Int}
theorem jbk_pos (v:TJson):5≤jbk v:=by
  unfold jbk TJson.enc
  simp only [D.bk,D.bk.bkL,bkL_sum]
  omega
theorem sum_ge:∀ (us:List TJson),us.length≤(us.map jbk).sum∧∀ u∈us,jbk u≤(us.map jbk).sum
  | []=>⟨Nat.le_refl _,fun u h=>(List.not_mem_nil h).elim⟩
  | x :: r=>by
    obtain ⟨h1,h2⟩:=sum_ge r
    have:=jbk_pos x
    simp only [List.map_cons,List.sum_cons,List.length_cons]
    refine ⟨by omega,fun u hu=>?_⟩
    rcases List.mem_cons.1 hu with rfl | hu
    · omega
    · have:=h2 u hu
      omega
theorem keys_ge:∀ (ks:List (List UInt8)),ks.length≤(ks.map fun x=>x.length + 1).sum∧∀ k∈ks,k.length≤(ks.map fun x=>x.length + 1).sum
  | []=>⟨Nat.le_refl _,fun u h=>(List.not_mem_nil h).elim⟩
  | x :: r=>by
    obtain ⟨h1,h2⟩:=keys_ge r
    simp only [List.map_cons,List.sum_cons,List.length_cons]
    refine ⟨by omega,fun u hu=>?_⟩
    rcases List.mem_cons.1 hu with rfl | hu
    · omega
    · have:=h2 u hu
      omega
def RcT (s:List UInt8) (h:Nat) (rc:List UInt8→Int→Int→Int→Option (Int×(List UInt8)×(List (RT 4))×(List (List UInt8))×Int×Int)) (d:Int):Prop :=
  ∀ p e,0≤p→p≤((s.length:Nat):Int)→∃ k t l ks m e',rc s p e d = some (k,t,l,ks,m,e')∧p≤m∧m≤((s.length:Nat):Int)∧(e≠0→e'≠0)∧(e' = 0→p < m∧TJ h ⟨k,t,l,ks⟩∧((jbk ⟨k,t,l,ks⟩:Nat):Int)≤10 * (m - p))
def LI (q:Int) (h:Nat) (n0 p:Int) (x:Nat) (L:List (RT 4)) (ks:List (List UInt8)):Prop:=∃ us:List TJson,L = us.map (RT.of TJson.ok)∧(∀ u∈us,TJ h u)∧(q = 7→ks.length = us.length + x)∧(q≠7→ks = []) ∧
  ((5 + (us.map jbk).sum + (ks.map fun x=>x.length + 1).sum:Nat):Int)≤10 * (p - n0)
theorem LI.len {q:Int} {h x:Nat} {n0 p:Int} {L:List (RT 4)} {ks:List (List UInt8)} (hI:LI q h n0 p x L ks) (h0:0≤n0) (h1:p≤20000):L.length≤200000∧ks.length≤200000:=by
  obtain ⟨us,rfl,_,_,_,h5⟩:=hI
  have:=(sum_ge us).1
  have:=(keys_ge ks).1
  rw [List.length_map]
  omega
def LT (s:List UInt8) (q:Int) (h:Nat) (n0 p:Int) (o:Option (LR2 (Int×Int) Unit (Int×(List (RT 4))×(List (List UInt8))×Int×Int))):Prop :=
  (∃ l ks m e,o = some (.r (q,l,ks,m,e))∧p≤m∧m≤((s.length:Nat):Int)∧(e = 0→p < m∧LI q h n0 m 0 l ks))∨(∃ m e,o = some (.b0 (m,e))∧p≤m∧m≤((s.length:Nat):Int)∧e≠0)
theorem LT.mono {q:Int} {h:Nat} {n0 p p':Int} {o} (hp:p'≤p) (hT:LT s q h n0 p o):LT s q h n0 p' o:=by
  rcases hT with ⟨l,ks,m,e,h1,h2,h3,h4⟩ | ⟨m,e,h1,h2,h3,h4⟩
  · exact .inl ⟨l,ks,m,e,h1,by omega,h3,fun he=>⟨by have:=(h4 he).1; omega,(h4 he).2⟩⟩
  · exact .inr ⟨m,e,h1,by omega,h3,h4⟩
theorem k170_at (hb:s.length≤20000) (h:Nat) (q n0 p e d:Int) (Lc:Int→Int→(List (RT 4))→(List (List UInt8))→Option (LR2 (Int×Int) Unit (Int×(List (RT 4))×(List (List UInt8))×Int×Int))) (K:Nat) (rc:Y296) (hrc:RcT s h rc (d + 1)) (z:UInt8)
    (L:List (RT 4)) (ks:List (List UInt8)) (hd:0≤d∧d≤100) (hK:s.length + 1≤K) (h0:0≤p) (h1:p≤((s.length:Nat):Int)) (hL:L.length≤200000) (hI:e = 0→LI q h n0 p (if q = 7 then 1 else 0) L ks)
    (hE:∀ p e L ks,e≠0→Lc p e L ks = some (.b0 (p,e))) (hO:∀ p' L' ks',p < p'→p'≤((s.length:Nat):Int)→LI q h n0 p' 0 L' ks'→LT s q h n0 p' (Lc p' 0 L' ks')) :
    LT s q h n0 p (f353_j170 Lc K rc s d L [z] q p e ks):=by
  unfold f353_j170
  rw [i64w (by omega)]
  obtain ⟨k,t,l,kv,m,e',g1,g2,g3,g4,g5⟩:=hrc p e h0 h1
  rw [g1,Option.bind_some,gdp (by simp; omega)]
  obtain ⟨m2,a1,a2,a3⟩:=white_at hb K (n:=m) (by omega) g3 hK
  show LT s q h n0 p (Option.bind (f297 K s m e') _)
  rw [a1,Option.bind_some]
  obtain ⟨b,m3,b1,b2,b3,_,_⟩:=is_at (by omega) K e' [z] (by simp) (n:=m2) (by omega) a3
  show LT s q h n0 p (Option.bind (f299 K s m2 e' [z]) _)
  rw [b1,Option.bind_some]
  have hI':e' = 0→∀ m',m≤m'→LI q h n0 m' 0 (L ++ ([(RT.of TJson.ok (TJson.mk k t l kv))]:List (RT 4))) ks:=by
    intro he' m' hm'
    have he:e = 0:=by
      by_cases he:e = 0
      · exact he
      · exact absurd he' (g4 he)
    obtain ⟨us,u1,u2,u3,u4,u5⟩:=hI he
    obtain ⟨v1,v2,v3⟩:=g5 he'
    refine ⟨us ++ [⟨k,t,l,kv⟩],by rw [u1]; simp,fun u hu=>?_,fun hq=>?_,u4,?_⟩
    · rcases List.mem_append.1 hu with hu | hu
      · exact u2 u hu
      · rw [List.mem_singleton.1 hu]; exact v2
    · rw [u3 hq,if_pos hq]; simp
    · rw [List.map_append,List.sum_append]
      simp only [List.map_cons,List.map_nil,List.sum_cons,List.sum_nil]
      omega
  cases b with
  | true =>
    show LT s q h n0 p (some (.r (q,L ++ [RT.of TJson.ok (TJson.mk k t l kv)],ks,m3,e')))
    exact .inl ⟨_,ks,m3,e',rfl,by omega,b3,fun he=>⟨by have:=(g5 he).1; omega,hI' he m3 (by omega)⟩⟩
  | false =>
    obtain ⟨b',m4,c1,c2,c3,_,_⟩:=is_at (by omega) K e' [44] (by simp) (n:=m3) (by omega) b3
    show LT s q h n0 p (Option.bind (f299 K s m3 e' [44]) _)
    rw [c1,Option.bind_some]
    cases b' with
    | false =>
      show LT s q h n0 p (Option.bind (f298 K s m4 e' 4) _)
      rw [fail_at,Option.bind_some]
      have:(if e' = 0 then (4:Int) else e')≠0:=by split <;> first | decide | assumption
      rw [hE _ _ _ _ this]
      exact .inr ⟨m4,_,rfl,by omega,c3,this⟩
    | true =>
      show LT s q h n0 p (Lc m4 e' (L ++ [RT.of TJson.ok (TJson.mk k t l kv)]) ks)
      by_cases he:e' = 0
      · subst he
        exact (hO m4 _ ks (by have:=(g5 rfl).1; omega) c3 (hI' rfl m4 (by omega))).mono (by omega)
      · rw [hE _ _ _ _ he]
        exact .inr ⟨m4,e',rfl,by omega,c3,he⟩
theorem loop_e (q d:Int) (rc:Y296) (z:List UInt8) (K:Nat) (p e:Int) (L:List (RT 4)) (ks:List (List UInt8)) (he:e≠0):f353_l68 q s rc d z (K + 1) p e L ks = some (.b0 (p,e)):=by rw [f353_l68,cdn he]
theorem loop_at_aux (hb:s.length≤20000) (h:Nat) (q n0 d:Int) (rc:Y296) (hrc:RcT s h rc (d + 1)) (z:UInt8) (hd:0≤d∧d≤100) (hn0:0≤n0) (K:Nat) (p:Int) (L:List (RT 4)) (ks:List (List UInt8)) (h0:0≤p) (h1:p≤((s.length:Nat):Int)) (hK:s.length + 200100≤K) (hI:LI q h n0 p 0 L ks)
    (ih:∀ (K':Nat) (p':Int) (L':List (RT 4)) (ks':List (List UInt8)),K' + 1 = K→p < p'→p'≤((s.length:Nat):Int)→LI q h n0 p' 0 L' ks'→LT s q h n0 p' (f353_l68 q s rc d [z] K' p' 0 L' ks')):LT s q h n0 p (f353_l68 q s rc d [z] K p 0 L ks):=by
  obtain ⟨K,rfl⟩:∃ i,K = i + 1:=⟨K - 1,by omega⟩
  obtain ⟨l1,l2⟩:=hI.len hn0 (by omega)
  have hE:∀ p e L ks,e≠0→f353_l68 q s rc d [z] K p e L ks = some (.b0 (p,e)):=fun p e L ks he=>by
    obtain ⟨K,rfl⟩:∃ i,K = i + 1:=⟨K - 1,by omega⟩
    exact loop_e q d rc [z] K p e L ks he
  rw [f353_l68,cdp rfl]
  by_cases hq:q = 7
  · rw [cdp hq]
    obtain ⟨m,a1,a2,a3⟩:=white_at hb K h0 h1 (by omega)
    rw [a1,Option.bind_some]
    obtain ⟨b,m2,b1,b2,b3,b4,b5⟩:=is_at (by omega) K 0 [34] (by simp) (n:=m) (by omega) a3
    rw [b1,Option.bind_some]
    cases b with
    | false=>exact .inr ⟨m2,4,rfl,by omega,b3,by decide⟩
    | true =>
      have hm2:=b4 rfl
      simp only [List.length_singleton] at hm2
      obtain ⟨x,m3,e,c1,c2,c3,c4⟩:=text_at hb K (n:=m2) (by omega) b3 (by omega)
      show LT s q h n0 p (Option.bind (f300 K s m2 0) _)
      rw [c1,Option.bind_some]
      have j140:LT s q h n0 p (f353_j140 (f353_l68 q s rc d [z] K) K ks (x,m3,e) s rc d L [z] q):=by
        unfold f353_j140
        rw [gdp (by simp; omega)]
        obtain ⟨m4,d1,d2,d3⟩:=white_at hb K (n:=m3) (by omega) c3 (by omega)
        show LT s q h n0 p (Option.bind (f297 K s m3 e) _)
        rw [d1,Option.bind_some]
        obtain ⟨b',m5,e1,e2,e3,_,_⟩:=is_at (by omega) K e [58] (by simp) (n:=m4) (by omega) d3
        show LT s q h n0 p (Option.bind (f299 K s m4 e [58]) _)
        rw [e1,Option.bind_some]
        cases b' with
        | false =>
          show LT s q h n0 p (Option.bind (f298 K s m5 e 4) _)
          rw [fail_at,Option.bind_some]
          refine .inr ⟨m5,_,rfl,by omega,e3,?_⟩
          split <;> first | decide | assumption
        | true =>
          show LT s q h n0 p (f353_j170 (f353_l68 q s rc d [z] K) K rc s d L [z] q m5 e (ks ++ [x]))
          refine LT.mono (p:=m5) (by omega) (k170_at hb h q n0 m5 e d _ K rc hrc z L (ks ++ [x]) hd (by omega) (by omega) e3 l1 (fun he=>?_) hE (fun p' L' ks' w1 w2 w3=>ih K p' L' ks' rfl (by omega) w2 w3))
          obtain ⟨us,u1,u2,u3,u4,u5⟩:=hI
          refine ⟨us,u1,u2,fun _=>?_,fun h=>absurd hq h,?_⟩
          · rw [if_pos hq,List.length_append,u3 hq]; rfl
          · rw [List.map_append,List.sum_append]
            simp only [List.map_cons,List.map_nil,List.sum_cons,List.sum_nil]
            omega
      show LT s q h n0 p (cond (decide (e = 0)) (Option.bind (f77 K ks x) _) _)
      by_cases he:e = 0
      · rw [cdp he]
        obtain ⟨bb,hbb⟩:=has_at K ks x (by omega) (by omega)
        rw [hbb,Option.bind_some]
        cases bb with
        | false=>exact j140
        | true =>
          show LT s q h n0 p (Option.bind (f298 K s m3 e 7) _)
          rw [fail_at,Option.bind_some]
          refine .inr ⟨m3,_,rfl,by omega,c3,?_⟩
          split <;> first | decide | assumption
      · rw [cdn he]; exact j140
  · rw [cdn hq]
    refine k170_at hb h q n0 p 0 d _ K rc hrc z L ks hd (by omega) h0 h1 l1 (fun he=>?_) hE (fun p' L' ks' w1 w2 w3=>ih K p' L' ks' rfl w1 w2 w3)
    rw [if_neg hq]; exact hI
theorem loop_at (hb:s.length≤20000) (h:Nat) (q n0 d:Int) (rc:Y296) (hrc:RcT s h rc (d + 1)) (z:UInt8) (hd:0≤d∧d≤100) (hn0:0≤n0) :
    ∀ (j:Nat) (K:Nat) (p:Int) (L:List (RT 4)) (ks:List (List UInt8)),((s.length:Nat):Int) - p≤(j:Int)→0≤p→p≤((s.length:Nat):Int)→j + s.length + 200100≤K→LI q h n0 p 0 L ks→LT s q h n0 p (f353_l68 q s rc d [z] K p 0 L ks):=by
  intro j
  induction j with
  | zero =>
    intro K p L ks hj h0 h1 hK hI
    exact loop_at_aux hb h q n0 d rc hrc z hd hn0 K p L ks h0 h1 (by omega) hI (fun K' p' L' ks' a b c e=>absurd b (by omega))
  | succ j ih =>
    intro K p L ks hj h0 h1 hK hI
    exact loop_at_aux hb h q n0 d rc hrc z hd hn0 K p L ks h0 h1 (by omega) hI (fun K' p' L' ks' a b c e=>ih K' p' L' ks' (by omega) (by omega) c (by omega) e)
end Go.Proofs.Abs
end
section
namespace Go.Proofs.Abs
open Go
set_option linter.unusedVariables false
set_option maxRecDepth 100000
variable {s:List UInt8} {n:Int}
theorem LI.tj {q:Int} {h:Nat} {n0 p:Int} {L:List (RT 4)} {ks:List (List UInt8)} (hI:LI q h n0 p 0 L ks) (hq:q = 6∨q = 7):TJ (h + 1) ⟨q,[],L,ks⟩∧((jbk ⟨q,[],L,ks⟩:Nat):Int)≤10 * (p - n0):=by
  obtain ⟨us,u1,u2,u3,u4,u5⟩:=hI
  refine ⟨⟨fun h=>(by rcases hq with rfl | rfl <;> cases h),fun h=>?_,us,u1,u2⟩,?_⟩
  · show ks.length = L.length
    rw [u3 h,u1,List.length_map]; rfl
  · rw [jbk_eq _ us u1]
    simpa using u5
theorem many_at (hb:s.length≤20000) (h:Nat) (d e:Int) (K:Nat) (rc:Y296) (hrc:RcT s h rc (d + 1)) (hd:0≤d∧d≤100) (h0:0≤n) (h1:n < ((s.length:Nat):Int)) (hK:2 * s.length + 200200≤K) :
    ∃ k l ks m e',f353 rc K s n e d = some (k,l,ks,m,e')∧n≤m∧m≤((s.length:Nat):Int)∧(e≠0→e'≠0)∧(e' = 0→n < m∧TJ (h + 1) ⟨k,[],l,ks⟩∧((jbk ⟨k,[],l,ks⟩:Nat):Int)≤10 * (m - n)):=by
  have key:∀ (z:UInt8) (q:Int),q = 6∨q = 7→∃ k l ks m e',f353_j36 K s n e rc d [z] q = some (k,l,ks,m,e')∧n≤m∧m≤((s.length:Nat):Int)∧(e≠0→e'≠0)∧(e' = 0→n < m∧TJ (h + 1) ⟨k,[],l,ks⟩∧((jbk ⟨k,[],l,ks⟩:Nat):Int)≤10 * (m - n)):=by
    intro z q hq
    unfold f353_j36
    rw [i64w (by omega)]
    obtain ⟨m,a1,a2,a3⟩:=white_at hb K (n:=n + 1) (by omega) (by omega) (by omega)
    rw [a1,Option.bind_some]
    obtain ⟨b,m2,b1,b2,b3,_,_⟩:=is_at (by omega) K e [z] (by simp) (n:=m) (by omega) a3
    rw [b1,Option.bind_some]
    have hI0:∀ m',m≤m'→LI q h n m' 0 [] []:=fun m' hm'=>⟨[],rfl,fun u hu=>(by cases hu),fun _=>rfl,fun _=>rfl,by simp; omega⟩
    cases b with
    | true=>exact ⟨q,[],[],m2,e,rfl,by omega,b3,fun h=>h,fun _=>⟨by omega,(hI0 m2 b2).tj hq⟩⟩
    | false =>
      show ∃ k l ks m e',Option.bind (f353_l68 q s rc d [z] K m2 e [] []) _ = _∧_
      by_cases he:e = 0
      · subst he
        rcases loop_at hb h q n d rc hrc z hd h0 (((s.length:Nat):Int) - m2).toNat K m2 [] [] (by omega) (by omega) b3 (by omega) (hI0 m2 b2) with ⟨l,ks,m3,e',c1,c2,c3,c4⟩ | ⟨m3,e',c1,c2,c3,c4⟩
        · rw [c1,Option.bind_some]
          exact ⟨q,l,ks,m3,e',rfl,by omega,c3,fun h=>absurd rfl h,fun he=>⟨by omega,(c4 he).2.tj hq⟩⟩
        · rw [c1,Option.bind_some]
          exact ⟨0,[],[],m3,e',rfl,by omega,c3,fun h=>absurd rfl h,fun he=>absurd he c4⟩
      · obtain ⟨K,rfl⟩:∃ i,K = i + 1:=⟨K - 1,by omega⟩
        rw [loop_e q d rc [z] K m2 e [] [] he,Option.bind_some]
        exact ⟨0,[],[],m2,e,rfl,by omega,b3,fun h=>h,fun h=>absurd h he⟩
  unfold f353
  rw [gdp (by omega)]
  cases decide ((((s.getD n.toNat 0).toNat:Nat):Int) = (123:Int)) with
  | true=>exact key 125 7 (.inr rfl)
  | false=>exact key 93 6 (.inl rfl)
theorem text_any (hb:s.length≤20000) (K:Nat) (e:Int) (h0:0≤n) (h1:n≤((s.length:Nat):Int)) (hK:s.length + 12≤K):∃ t m e',f300 K s n e = some (t,m,e')∧n≤m∧m≤((s.length:Nat):Int)∧((t.length:Nat):Int)≤m - n∧(e≠0→e'≠0):=by
  by_cases he:e = 0
  · subst he
    obtain ⟨t,m,e,g1,g2,g3,g4⟩:=text_at hb K h0 h1 hK
    exact ⟨t,m,e,g1,g2,g3,g4,fun h=>absurd rfl h⟩
  · obtain ⟨K,rfl⟩:∃ i,K = i + 1:=⟨K - 1,by omega⟩
    refine ⟨[],n,e,?_,by omega,h1,by simp,fun h=>h⟩
    unfold f300
    rw [text_e K _ e he]
    rfl
theorem value_s (hb:s.length≤20000) (h:Nat) (d:Int) (K:Nat) (rc:Y296) (hd:0≤d∧d≤64) (hrc:d < 64→RcT s h rc (d + 1)) (hK:2 * s.length + 200200≤K) (p e:Int) (h0:0≤p) (h1:p≤((s.length:Nat):Int)) :
    ∃ k t l ks m e',f296_s rc K s p e d = some (k,t,l,ks,m,e')∧p≤m∧m≤((s.length:Nat):Int)∧(e≠0→e'≠0)∧(e' = 0→p < m∧TJ (h + 1) ⟨k,t,l,ks⟩∧((jbk ⟨k,t,l,ks⟩:Nat):Int)≤10 * (m - p)):=by
  unfold f296_s
  obtain ⟨m,a1,a2,a3⟩:=white_at hb K h0 h1 (by omega)
  rw [a1,Option.bind_some]
  have err:∀ (k m' x:Int) (t:List UInt8),x≠0→p≤m'→m'≤((s.length:Nat):Int)→∃ k' t' l ks m2 e',(some (if e = 0 then x else e)).bind (fun r=>some (k,t,([]:List (RT 4)),([]:List (List UInt8)),m',r)) = some (k',t',l,ks,m2,e')∧p≤m2∧m2≤((s.length:Nat):Int)∧(e≠0→e'≠0)∧(e' = 0→p < m2∧TJ (h + 1) ⟨k',t',l,ks⟩∧((jbk ⟨k',t',l,ks⟩:Nat):Int)≤10 * (m2 - p)):=by
    intro k m' x t hx q1 q2
    have:(if e = 0 then x else e)≠0:=by split <;> assumption
    exact ⟨k,t,[],[],m',_,rfl,q1,q2,fun _=>this,fun h=>absurd h this⟩
  by_cases hm:m ≥ ((s.length:Nat):Int)
  · rw [cdp hm,fail_at]
    exact err 0 m 4 [] (by decide) a2 a3
  rw [cdn hm]
  have word:∀ (k m':Int),k≠4→m < m'→m'≤((s.length:Nat):Int)→∃ k' t' l ks m2 e',some (k,([]:List UInt8),([]:List (RT 4)),([]:List (List UInt8)),m',e) = some (k',t',l,ks,m2,e')∧p≤m2∧m2≤((s.length:Nat):Int)∧(e≠0→e'≠0)∧(e' = 0→p < m2∧TJ (h + 1) ⟨k',t',l,ks⟩∧((jbk ⟨k',t',l,ks⟩:Nat):Int)≤10 * (m2 - p)):=by
    intro k m' hk q1 q2
    refine ⟨k,[],[],[],m',e,rfl,by omega,q2,fun h=>h,fun _=>⟨by omega,TJ.leaf h k [] (fun h=>absurd h hk),?_⟩⟩
    rw [jbk_leaf]
    simp only [List.length_nil]
    omega
  obtain ⟨b,m2,b1,b2,b3,b4,b5⟩:=is_at (by omega) K e [110,117,108,108] (by simp) (n:=m) (by omega) a3
  rw [b1,Option.bind_some]
  cases b with
  | true =>
    have:=b4 rfl
    simp only [List.length_cons,List.length_nil] at this
    exact word 1 m2 (by decide) (by omega) b3
  | false =>
  have hm2:=b5 rfl
  subst hm2
  obtain ⟨b,m3,b1,b2,b3,b4,b5⟩:=is_at (by omega) K e [102,97,108,115,101] (by simp) (n:=m2) (by omega) a3
  show ∃ k t l ks m e',Option.bind (f299 K s m2 e [102,97,108,115,101]) _ = _∧_
  rw [b1,Option.bind_some]
  cases b with
  | true =>
    have:=b4 rfl
    simp only [List.length_cons,List.length_nil] at this
    exact word 2 m3 (by decide) (by omega) b3
  | false =>
  have hm2:=b5 rfl
  subst hm2
  obtain ⟨b,m4,b1,b2,b3,b4,b5⟩:=is_at (by omega) K e [116,114,117,101] (by simp) (n:=m3) (by omega) a3
  show ∃ k t l ks m e',Option.bind (f299 K s m3 e [116,114,117,101]) _ = _∧_
  rw [b1,Option.bind_some]
  cases b with
  | true =>
    have:=b4 rfl
    simp only [List.length_cons,List.length_nil] at this
    exact word 3 m4 (by decide) (by omega) b3
  | false =>
  have hm2:=b5 rfl
  subst hm2
  obtain ⟨b,m5,b1,b2,b3,b4,b5⟩:=is_at (by omega) K e [34] (by simp) (n:=m4) (by omega) a3
  show ∃ k t l ks m e',Option.bind (f299 K s m4 e [34]) _ = _∧_
  rw [b1,Option.bind_some]
  cases b with
  | true =>
    have:=b4 rfl
    simp only [List.length_cons,List.length_nil] at this
    show ∃ k t l ks m e',Option.bind (f300 K s m5 e) _ = _∧_
    obtain ⟨t,m6,e',c1,c2,c3,c4,c5⟩:=text_any hb K e (n:=m5) (by omega) b3 (by omega)
    rw [c1,Option.bind_some]
    refine ⟨5,t,[],[],m6,e',rfl,by omega,c3,c5,fun _=>⟨by omega,TJ.leaf h 5 t (fun h=>by cases h),?_⟩⟩
    rw [jbk_leaf]
    omega
  | false =>
  have hm2:=b5 rfl
  subst hm2
  show ∃ k t l ks m e',gd (0≤m5∧m5 < ((s.length:Nat):Int)) (cond (decide ((((s.getD (m5).toNat 0).toNat:Nat):Int) = (91:Int))) (f296_j111 K d s (false,m5) e rc true) (gd (0≤m5∧m5 < ((s.length:Nat):Int)) (f296_j111 K d s (false,m5) e rc (decide ((((s.getD (m5).toNat 0).toNat:Nat):Int) = (123:Int)))))) = _∧_
  rw [gdp (by omega),gdp (by omega)]
  have key:∀ b,∃ k t l ks m e',f296_j111 K d s (false,m5) e rc b = some (k,t,l,ks,m,e')∧p≤m∧m≤((s.length:Nat):Int)∧(e≠0→e'≠0)∧(e' = 0→p < m∧TJ (h + 1) ⟨k,t,l,ks⟩∧((jbk ⟨k,t,l,ks⟩:Nat):Int)≤10 * (m - p)):=by
    intro b
    unfold f296_j111
    cases b with
    | true =>
      rw [cond_true]
      by_cases h64:d ≥ 64
      · rw [cdp h64]
        show ∃ k t l ks m e',Option.bind (f298 K s m5 e 5) _ = _∧_
        rw [fail_at]
        exact err 0 m5 5 [] (by decide) a2 a3
      · rw [cdn h64]
        obtain ⟨k,l,ks,m6,e',c1,c2,c3,c4,c5⟩:=many_at hb h d e K rc (hrc (by omega)) ⟨hd.1,by omega⟩ (n:=m5) (by omega) (by omega) hK
        show ∃ k t l ks m e',Option.bind (f353 rc K s m5 e d) _ = _∧_
        rw [c1,Option.bind_some]
        refine ⟨k,[],l,ks,m6,e',rfl,by omega,c3,c4,fun he=>?_⟩
        obtain ⟨w1,w2,w3⟩:=c5 he
        exact ⟨by omega,w2,by omega⟩
    | false =>
      rw [cond_false]
      obtain ⟨t,m6,e',c1,c2,c3,c4,c5⟩:=num_at (by omega) K e (n:=m5) (by omega) a3 (by omega)
      show ∃ k t l ks m e',Option.bind (f350 K s m5 e) _ = _∧_
      rw [c1,Option.bind_some]
      refine ⟨4,t,[],[],m6,e',rfl,by omega,c3,c5,fun he=>?_⟩
      obtain ⟨w1,w2,w3⟩:=c4 he
      refine ⟨by omega,TJ.leaf h 4 t (fun _=>w2),?_⟩
      rw [jbk_leaf]
      omega
  cases decide ((((s.getD m5.toNat 0).toNat:Nat):Int) = (91:Int)) with
  | true=>exact key true
  | false=>exact key _
theorem value_at (hb:s.length≤20000):∀ (h:Nat) (K:Nat),h≤64→h + 2 * s.length + 200201≤K→RcT s (h + 1) (f296 K) (64 - (h:Int))
  | 0,K,hh,hK=>by
    obtain ⟨K,rfl⟩:∃ i,K = i + 1:=⟨K - 1,by omega⟩
    intro p e h0 h1
    rw [f296]
    exact value_s hb 0 _ K _ (by omega) (fun hd=>by omega) (by omega) p e h0 h1
  | h + 1,K,hh,hK=>by
    obtain ⟨K,rfl⟩:∃ i,K = i + 1:=⟨K - 1,by omega⟩
    intro p e h0 h1
    rw [f296]
    refine value_s hb (h + 1) _ K _ (by omega) (fun hd=>?_) (by omega) p e h0 h1
    have:=value_at hb h K (by omega) (by omega)
    rwa [show (64:Int) - ((h + 1:Nat):Int) + 1 = 64 - (h:Int) by omega]
theorem parse_at (t:List UInt8) (K:Nat) (hK:250000≤K):∃ (e k:Int) (x:List UInt8) (l:List (RT 4)) (ks:List (List UInt8)),f295 K t = some (e,k,x,l,ks)∧TJ 65 ⟨k,x,l,ks⟩∧jbk ⟨k,x,l,ks⟩≤200000:=by
  have zero:∀ e:Int,∃ (e' k:Int) (x:List UInt8) (l:List (RT 4)) (ks:List (List UInt8)),(some (e,(0:Int),([]:List UInt8),([]:List (RT 4)),([]:List (List UInt8))):Option (Int×Int×List UInt8×List (RT 4)×List (List UInt8))) = some (e',k,x,l,ks)∧TJ 65 ⟨k,x,l,ks⟩∧jbk ⟨k,x,l,ks⟩≤200000:=fun e=>⟨e,0,[],[],[],rfl,TJ.leaf 64 0 [] (fun h=>by cases h),by rw [jbk_leaf]; decide⟩
  unfold f295
  by_cases hb:((t.length:Nat):Int) > 20000
  · rw [cdp hb]; exact zero 5
  rw [cdn hb]
  have hb:t.length≤20000:=by omega
  obtain ⟨k,x,l,ks,m,e,g1,g2,g3,_,g5⟩:=value_at hb 64 K (by omega) (by omega) 0 0 (by omega) (by omega)
  rw [show (64:Int) - ((64:Nat):Int) = 0 by omega] at g1
  rw [g1,Option.bind_some]
  obtain ⟨m2,a1,a2,a3⟩:=white_at hb K (n:=m) g2 g3 (by omega)
  show ∃ (e' k':Int) (x':List UInt8) (l':List (RT 4)) (ks':List (List UInt8)),Option.bind (f297 K t m e) _ = _∧_
  rw [a1,Option.bind_some]
  have fin:∀ e',(e' = 0→e = 0)→∃ (e'' k':Int) (x':List UInt8) (l':List (RT 4)) (ks':List (List UInt8)),f295_j61 K (k,x,l,ks,m,e) e' = some (e'',k',x',l',ks')∧TJ 65 ⟨k',x',l',ks'⟩∧jbk ⟨k',x',l',ks'⟩≤200000:=by
    intro e' he
    unfold f295_j61
    by_cases h0:e' = 0
    · rw [cdn (by simpa using h0)]
      obtain ⟨w1,w2,w3⟩:=g5 (he h0)
      exact ⟨0,k,x,l,ks,rfl,w2,by omega⟩
    · rw [cdp h0]; exact zero e'
  by_cases hm:m2 < ((t.length:Nat):Int)
  · rw [cdp hm]
    show ∃ (e' k':Int) (x':List UInt8) (l':List (RT 4)) (ks':List (List UInt8)),Option.bind (f298 K t m2 e 4) _ = _∧_
    rw [fail_at,Option.bind_some]
    refine fin _ fun h=>?_
    split at h
    · assumption
    · exact h
  · rw [cdn hm]
    exact fin e fun h=>h
end Go.Proofs.Abs
end
section
namespace Go.Proofs.Abs
open Go
set_option linter.unusedVariables false
set_option maxRecDepth 100000
theorem TJ.part {h:Nat} {v:TJson} {i:Int} (hv:TJ (h + 1) v) (h0:0≤i) (h1:i < ((v.fL.length:Nat):Int)):∃ u,TJson.dec (rtE (rd v.fL i)) = some u∧TJ h u∧jbk u + 5≤jbk v:=by
  obtain ⟨_,_,us,e,hu⟩:=hv
  have hl:i.toNat < us.length:=by rw [e,List.length_map] at h1; omega
  have hr:rd v.fL i = RT.of TJson.ok us[i.toNat]:=by
    unfold rd
    rw [e,←rd_get (by rw [List.length_map]; exact hl),List.getElem_map]
  have hm:=List.getElem_mem hl
  refine ⟨us[i.toNat],by rw [hr,TJson.dec_of],hu _ hm,?_⟩
  have:=(sum_ge us).2 _ hm
  rw [jbk_eq v us e]
  omega
theorem TJ.lens {h:Nat} {v:TJson} (hv:TJ h v):v.fL.length≤jbk v∧v.fKeys.length≤jbk v∧v.fText.length≤jbk v∧(v.fKeys.map fun x=>x.length + 1).sum≤jbk v:=by
  cases h with
  | zero=>exact hv.elim
  | succ h =>
    obtain ⟨_,_,us,e,_⟩:=hv
    have:=(sum_ge us).1
    have:=(keys_ge v.fKeys).1
    rw [jbk_eq v us e,e,List.length_map]
    omega
def GetT (h:Nat) (v:TJson) (o:Option (Bool×Int×(List UInt8)×(List (RT 4))×(List (List UInt8)))):Prop :=
  ∃ b k t l ks,o = some (b,k,t,l,ks)∧TJ (h + 1) ⟨k,t,l,ks⟩∧jbk ⟨k,t,l,ks⟩≤jbk v∧(b = true→TJ h ⟨k,t,l,ks⟩∧jbk ⟨k,t,l,ks⟩ + 5≤jbk v)
theorem get_l {h:Nat} {v:TJson} (q:List UInt8) (hv:TJ (h + 1) v) (hb:jbk v≤1000000):∀ (j K:Nat) (i:Int),((v.fL.length:Nat):Int) - i≤(j:Int)→0≤i→j + 1≤K →
    ∃ z,f346_l12 v q K i = some z∧(z = .b0 ()∨∃ u:TJson,z = .r (true,u.fKind,u.fText,u.fL,u.fKeys)∧TJ h u∧jbk u + 5≤jbk v):=by
  intro j
  obtain ⟨l1,l2,_,_⟩:=hv.lens
  have step:∀ (K:Nat) (i:Int),0≤i→(∀ z,f346_l12 v q K (i + 1) = some z→(z = .b0 ()∨∃ u:TJson,z = .r (true,u.fKind,u.fText,u.fL,u.fKeys)∧TJ h u∧jbk u + 5≤jbk v)→True)→(i < ((v.fL.length:Nat):Int)→∃ z,f346_l12 v q K (i + 1) = some z∧(z = .b0 ()∨∃ u:TJson,z = .r (true,u.fKind,u.fText,u.fL,u.fKeys)∧TJ h u∧jbk u + 5≤jbk v)) →
      ∃ z,f346_l12 v q (K + 1) i = some z∧(z = .b0 ()∨∃ u:TJson,z = .r (true,u.fKind,u.fText,u.fL,u.fKeys)∧TJ h u∧jbk u + 5≤jbk v):=by
    intro K i h0 _ hn
    rw [f346_l12]
    by_cases c1:v.fKind = 7
    · rw [cdp c1]
      by_cases c2:i < ((v.fKeys.length:Nat):Int)
      · rw [cdp c2]
        by_cases c3:i < ((v.fL.length:Nat):Int)
        · rw [cdp c3,gdp (by omega)]
          by_cases c4:rd v.fKeys i = q
          · obtain ⟨u,e1,e2,e3⟩:=hv.part h0 c3
            rw [cdp c4,gdp (by omega),e1,Option.bind_some]
            exact ⟨_,rfl,.inr ⟨u,rfl,e2,e3⟩⟩
          · rw [cdn c4,i64w (by omega)]
            exact hn c3
        · rw [cdn c3]; exact ⟨_,rfl,.inl rfl⟩
      · rw [cdn c2]; exact ⟨_,rfl,.inl rfl⟩
    · rw [cdn c1]; exact ⟨_,rfl,.inl rfl⟩
  induction j with
  | zero =>
    intro K i hj h0 hK
    obtain ⟨K,rfl⟩:∃ j,K = j + 1:=⟨K - 1,by omega⟩
    exact step K i h0 (fun _ _ _=>trivial) (fun h=>by omega)
  | succ j ih =>
    intro K i hj h0 hK
    obtain ⟨K,rfl⟩:∃ j,K = j + 1:=⟨K - 1,by omega⟩
    exact step K i h0 (fun _ _ _=>trivial) (fun h=>ih K (i + 1) (by omega) (by omega) (by omega))
theorem get_at {h:Nat} {v:TJson} (q:List UInt8) (K:Nat) (hv:TJ (h + 1) v) (hb:jbk v≤1000000) (hK:jbk v + 1≤K):GetT h v (f346 K v q):=by
  obtain ⟨l1,l2,_,_⟩:=hv.lens
  obtain ⟨z,h1,h2⟩:=get_l q hv hb v.fL.length K 0 (by omega) (by omega) (by omega)
  unfold f346
  rw [h1,Option.bind_some]
  rcases h2 with rfl | ⟨u,rfl,e2,e3⟩
  · exact ⟨false,0,[],[],[],rfl,TJ.leaf h 0 [] (fun h=>by cases h),by rw [jbk_leaf]; exact jbk_pos v,fun h=>by cases h⟩
  · exact ⟨true,_,_,_,_,rfl,e2.up,by show jbk u≤_; omega,fun _=>⟨e2,e3⟩⟩
theorem valid_at (K:Nat) (t:List UInt8) (h:t.length≤1000000):∃ b,f351 K t = some b:=⟨_,by unfold f351; rw [gdp (by omega)]⟩
theorem numeral_at (K:Nat) (t:List UInt8) (h:t.length≤1000000) (hK:t.length + 2≤K):∃ b,f349 K t = some b:=by
  unfold f349
  obtain ⟨x,m,e,g1,_⟩:=num_at (s:=t) (n:=0) h K 0 (by omega) (by omega) hK
  rw [g1,Option.bind_some]
  show ∃ b,cond (decide (e = 0)) (cond (decide (m = ((t.length:Nat):Int))) (some (decide (x = t))) (some false)) (some false) = some b
  cases decide (e = 0)
  · exact ⟨_,rfl⟩
  · cases decide (m = ((t.length:Nat):Int))
    · exact ⟨_,rfl⟩
    · exact ⟨_,rfl⟩
theorem key_len {ks:List (List UInt8)} {i:Int} (h0:0≤i) (h1:i < ((ks.length:Nat):Int)):(rd ks i).length + 1≤(ks.map fun x=>x.length + 1).sum:=by
  have hl:i.toNat < ks.length:=by omega
  unfold rd
  rw [←rd_get hl]
  generalize i.toNat = n at hl
  clear h0 h1
  induction ks generalizing n with
  | nil=>cases hl
  | cons x r ih =>
    cases n with
    | zero=>simp only [List.getElem_cons_zero,List.map_cons,List.sum_cons]; omega
    | succ n =>
      have:=ih n (by simpa using hl)
      simp only [List.getElem_cons_succ,List.map_cons,List.sum_cons]
      omega
theorem right_l {h:Nat} {v:TJson} (hv:TJ (h + 1) v) (hb:jbk v≤1000000) (hq:v.fKind = 7→v.fKeys.length = v.fL.length) (rc:Y348) (d:Int) (hd:0≤d∧d≤64) (hrc:∀ u,TJ h u→jbk u≤1000000→∃ b,rc u (d + 1) = some b):∀ (j K:Nat) (i:Int),((v.fL.length:Nat):Int) - i≤(j:Int)→0≤i→j + jbk v + 10≤K →
    ∃ z,f348_l166 v rc d K i = some z∧(z = .b0 ()∨z = .r false):=by
  intro j
  obtain ⟨l1,l2,_,l4⟩:=hv.lens
  have step:∀ (K:Nat) (i:Int),0≤i→jbk v + 5≤K→(i < ((v.fL.length:Nat):Int)→∃ z,f348_l166 v rc d K (i + 1) = some z∧(z = .b0 ()∨z = .r false))→∃ z,f348_l166 v rc d (K + 1) i = some z∧(z = .b0 ()∨z = .r false):=by
    intro K i h0 hK hn
    rw [f348_l166]
    by_cases c3:i < ((v.fL.length:Nat):Int)
    · rw [cdp c3]
      have part:∃ z,gd (0≤i∧i < ((v.fL.length:Nat):Int)) ((TJson.dec (rtE (rd v.fL i))).bind fun rx213=>(rc rx213 (IntKind.i64.wrap (d + (1:Int)))).bind fun r217=>cond (!r217) (some (LR2.r false)) (f348_l166 v rc d K (IntKind.i64.wrap (i + (1:Int))))) = some z∧(z = .b0 ()∨z = .r false):=by
        obtain ⟨u,e1,e2,e3⟩:=hv.part h0 c3
        obtain ⟨b,hbb⟩:=hrc u e2 (by omega)
        rw [gdp (by omega),e1,Option.bind_some,i64w (by omega),hbb,Option.bind_some]
        cases b with
        | false=>exact ⟨_,rfl,.inr rfl⟩
        | true =>
          rw [i64w (by omega)]
          exact hn c3
      by_cases c1:v.fKind = 7
      · rw [cdp c1]
        have:=hq c1
        have hkl:=key_len (ks:=v.fKeys) h0 (by omega)
        obtain ⟨b,hbb⟩:=valid_at K (rd v.fKeys i) (by omega)
        rw [gdp (by omega),hbb,Option.bind_some]
        cases b with
        | false=>exact ⟨_,rfl,.inr rfl⟩
        | true =>
          show ∃ z,gd (0≤(0:Int)∧(0:Int)≤i∧i≤((v.fKeys.length:Nat):Int)) _ = some z∧_
          have hsl:=sl_len2 v.fKeys (a:=0) (b:=i) (by omega) h0 (by omega)
          obtain ⟨b2,hb2⟩:=has_at K (Abs.sl v.fKeys 0 i) (rd v.fKeys i) (by omega) (by omega)
          rw [gdp (by omega),gdp (by omega),hb2,Option.bind_some]
          cases b2 with
          | true=>exact ⟨_,rfl,.inr rfl⟩
          | false=>exact part
      · rw [cdn c1]; exact part
    · rw [cdn c3]; exact ⟨_,rfl,.inl rfl⟩
  induction j with
  | zero =>
    intro K i hj h0 hK
    obtain ⟨K,rfl⟩:∃ j,K = j + 1:=⟨K - 1,by omega⟩
    exact step K i h0 (by omega) (fun h=>by omega)
  | succ j ih =>
    intro K i hj h0 hK
    obtain ⟨K,rfl⟩:∃ j,K = j + 1:=⟨K - 1,by omega⟩
    exact step K i h0 (by omega) (fun h=>ih K (i + 1) (by omega) (by omega) (by omega))
theorem right_s {h:Nat} {v:TJson} (K:Nat) (hv:TJ (h + 1) v) (hb:jbk v≤1000000) (rc:Y348) (d:Int) (hd:0≤d∧d≤200) (hrc:d < 64→∀ u,TJ h u→jbk u≤1000000→∃ b,rc u (d + 1) = some b) (hK:2 * jbk v + 20≤K):∃ b,f348_s rc K v d = some b:=by
  obtain ⟨l1,l2,l3,l4⟩:=hv.lens
  have loop:d < 64→∃ b,f348_j161 K v rc d = some b:=by
    intro hd64
    obtain ⟨z,h1,h2⟩:=right_l hv hb hv.2.1 rc d ⟨hd.1,by omega⟩ (hrc hd64) v.fL.length K 0 (by omega) (by omega) (by omega)
    unfold f348_j161
    rw [h1,Option.bind_some]
    rcases h2 with rfl | rfl
    · exact ⟨_,rfl⟩
    · exact ⟨_,rfl⟩
  have lp:∃ b,cond (decide (d ≥ (64:Int))) (some false) (f348_j161 K v rc d) = some b:=by
    by_cases h64:d ≥ 64
    · rw [cdp h64]; exact ⟨_,rfl⟩
    · rw [cdn h64]; exact loop (by omega)
  have lk:∃ b,cond (decide (v.fKind = (7:Int))) (cond (decide (((v.fKeys.length:Nat):Int)≠((v.fL.length:Nat):Int))) (some false) (cond (decide (d ≥ (64:Int))) (some false) (f348_j161 K v rc d))) (cond (decide (d ≥ (64:Int))) (some false) (f348_j161 K v rc d)) = some b:=by
    cases decide (v.fKind = (7:Int))
    · exact lp
    · cases decide (((v.fKeys.length:Nat):Int)≠((v.fL.length:Nat):Int))
      · exact lp
      · exact ⟨_,rfl⟩
  have j117:∀ b,∃ c,f348_j117 K v d rc b = some c:=by
    intro b
    unfold f348_j117
    cases b with
    | false=>exact ⟨_,rfl⟩
    | true =>
      rw [cond_true]
      cases decide (v.fText≠([]:List UInt8))
      · rw [cond_false]
        cases decide (v.fKind = (6:Int))
        · exact lk
        · rw [cond_true]
          cases decide (((v.fKeys.length:Nat):Int) > (0:Int))
          · exact lk
          · exact ⟨_,rfl⟩
      · exact ⟨_,rfl⟩
  have small:∃ b,cond (decide (((v.fL.length:Nat):Int) = (0:Int))) (some (decide (((v.fKeys.length:Nat):Int) = (0:Int)))) (some false) = some b:=by
    cases decide (((v.fL.length:Nat):Int) = (0:Int)) <;> exact ⟨_,rfl⟩
  have j32:∀ b,∃ c,f348_j32 K v d rc b = some c:=by
    intro b
    unfold f348_j32
    cases b with
    | true =>
      rw [cond_true]
      cases decide (v.fText = ([]:List UInt8))
      · exact ⟨_,rfl⟩
      · exact small
    | false =>
      rw [cond_false]
      cases decide (v.fKind = (4:Int))
      · rw [cond_false]
        cases decide (v.fKind = (5:Int))
        · rw [cond_false]
          cases decide (v.fKind = (6:Int))
          · rw [cond_false]; exact j117 _
          · rw [cond_true]; exact j117 _
        · rw [cond_true]
          obtain ⟨b,hbb⟩:=valid_at K v.fText (by omega)
          rw [hbb,Option.bind_some]
          cases b
          · exact ⟨_,rfl⟩
          · exact small
      · rw [cond_true]
        obtain ⟨b,hbb⟩:=numeral_at K v.fText (by omega) (by omega)
        rw [hbb,Option.bind_some]
        cases b
        · exact ⟨_,rfl⟩
        · exact small
  unfold f348_s
  cases decide (v.fKind = (1:Int))
  · rw [cond_false]
    cases decide (v.fKind = (2:Int))
    · rw [cond_false]; exact j32 _
    · rw [cond_true]; exact j32 _
  · rw [cond_true]; exact j32 _
theorem right_h:∀ (h:Nat) (K:Nat) (v:TJson) (d:Int),TJ h v→jbk v≤1000000→0≤d∧d≤64→h + 2000100≤K→∃ b,f348 K v d = some b
  | 0,K,v,d,hv,_,_,_=>hv.elim
  | h + 1,K,v,d,hv,hb,hd,hK=>by
    obtain ⟨K,rfl⟩:∃ j,K = j + 1:=⟨K - 1,by omega⟩
    rw [f348]
    exact right_s K hv hb (f348 K) d ⟨hd.1,by omega⟩ (fun h64 u hu hub=>right_h h K u (d + 1) hu hub ⟨by omega,by omega⟩ (by omega)) (by omega)
theorem right_at {h:Nat} {v:TJson} (K:Nat) (hv:TJ h v) (hb:jbk v≤1000000) (hK:h + 2000100≤K):∃ b,f347 K v = some b:=by
  obtain ⟨b,hbb⟩:=right_h h K v 0 hv hb (by omega) hK
  exact ⟨b,by unfold f347; rw [hbb]; rfl⟩
end Go.Proofs.Abs
end
section
namespace Go.Proofs.Abs
open Go
set_option linter.unusedVariables false
set_option maxRecDepth 100000
abbrev hexT:List UInt8:=[48,49,50,51,52,53,54,55,56,57,97,98,99,100,101,102]
theorem hex_fin:∀ x:Fin 32,(0≤(Int.fdiv (x.val:Int) (2 ^ (min ((4:Int)).toNat IntKind.u8.bits)))∧(Int.fdiv (x.val:Int) (2 ^ (min ((4:Int)).toNat IntKind.u8.bits)))≤(((u8 (IntKind.u8.wrap ((Int.fdiv (x.val:Int) (2 ^ (min ((4:Int)).toNat IntKind.u8.bits))) + (1:Int)))).toNat:Nat):Int)∧(((u8 (IntKind.u8.wrap ((Int.fdiv (x.val:Int) (2 ^ (min ((4:Int)).toNat IntKind.u8.bits))) + (1:Int)))).toNat:Nat):Int)≤((hexT.length:Nat):Int)) ∧
    (sl hexT (Int.fdiv (x.val:Int) (2 ^ (min ((4:Int)).toNat IntKind.u8.bits))) (((u8 (IntKind.u8.wrap ((Int.fdiv (x.val:Int) (2 ^ (min ((4:Int)).toNat IntKind.u8.bits))) + (1:Int)))).toNat:Nat):Int)).length = 1 ∧
    (0≤(((u8 (bitsA .and .u8 (x.val:Int) (15:Int))).toNat:Nat):Int)∧(((u8 (bitsA .and .u8 (x.val:Int) (15:Int))).toNat:Nat):Int)≤(((u8 (IntKind.u8.wrap ((((u8 (bitsA .and .u8 (x.val:Int) (15:Int))).toNat:Nat):Int) + (1:Int)))).toNat:Nat):Int)∧(((u8 (IntKind.u8.wrap ((((u8 (bitsA .and .u8 (x.val:Int) (15:Int))).toNat:Nat):Int) + (1:Int)))).toNat:Nat):Int)≤((hexT.length:Nat):Int)) ∧
    (sl hexT (((u8 (bitsA .and .u8 (x.val:Int) (15:Int))).toNat:Nat):Int) (((u8 (IntKind.u8.wrap ((((u8 (bitsA .and .u8 (x.val:Int) (15:Int))).toNat:Nat):Int) + (1:Int)))).toNat:Nat):Int)).length = 1:=by decide
variable {s:List UInt8}
theorem quote_l (hb:s.length≤1000000):∀ (j K:Nat) (i:Int) (y:List UInt8),((s.length:Nat):Int) - i≤(j:Int)→0≤i→i≤((s.length:Nat):Int)→j + 1≤K→((y.length:Nat):Int)≤6 * i + 1→∃ z,f356_l14 s K y i = some (.b0 z)∧z.length≤6 * s.length + 1:=by
  intro j
  have step:∀ (K:Nat) (i:Int) (y:List UInt8),0≤i→i < ((s.length:Nat):Int)→((y.length:Nat):Int)≤6 * i + 1→(∀ y',((y'.length:Nat):Int)≤6 * (i + 1) + 1→∃ z,f356_l14 s K y' (i + 1) = some (.b0 z)∧z.length≤6 * s.length + 1)→∀ b,∃ z,f356_j47 (f356_l14 s K) K y i s b = some (.b0 z)∧z.length≤6 * s.length + 1:=by
    intro K i y h0 h1 hy hn b
    have w1:IntKind.i64.wrap (i + 1) = i + 1:=i64w (by omega)
    have hsl:=sl_len2 s (a:=i) (b:=i + 1) h0 (by omega) (by omega)
    unfold f356_j47
    rw [w1]
    cases b with
    | true =>
      rw [cond_true,gdp (by simp; omega),gdp (by omega),gdp (by simp; omega)]
      exact hn _ (by simp only [List.length_append,List.length_singleton]; omega)
    | false =>
      rw [cond_false]
      generalize hc:s.getD i.toNat 0 = c
      by_cases c1:((c.toNat:Nat):Int) < 32
      · obtain ⟨a1,a2,a3,a4⟩:=hex_fin ⟨c.toNat,by omega⟩
        simp only at a1 a2 a3 a4
        rw [cdp c1,gdp (by simp; omega),gdp a1,gdp (by rw [a2]; simp; omega),gdp a3,gdp (by rw [a4,List.length_append,a2]; simp; omega)]
        exact hn _ (by rw [List.length_append,List.length_append,List.length_append,a2,a4]; simp; omega)
      · rw [cdn c1,gdp (by omega),gdp (by omega)]
        exact hn _ (by rw [List.length_append]; omega)
  induction j with
  | zero =>
    intro K i y hj h0 h1 hK hy
    obtain ⟨K,rfl⟩:∃ j,K = j + 1:=⟨K - 1,by omega⟩
    exact ⟨y,by rw [f356_l14,cdn (by omega)],by omega⟩
  | succ j ih =>
    intro K i y hj h0 h1 hK hy
    obtain ⟨K,rfl⟩:∃ j,K = j + 1:=⟨K - 1,by omega⟩
    rw [f356_l14]
    by_cases c3:i < ((s.length:Nat):Int)
    · have key:=step K i y h0 c3 hy (fun y' hy'=>ih K (i + 1) y' (by omega) (by omega) (by omega) (by omega) hy')
      rw [cdp c3,gdp (by omega)]
      cases decide ((((s.getD i.toNat 0).toNat:Nat):Int) = (34:Int)) with
      | true=>rw [cond_true]; exact key _
      | false=>rw [cond_false]; exact key _
    · exact ⟨y,by rw [cdn c3],by omega⟩
theorem quote_at (hb:s.length≤1000000) (K:Nat) (hK:s.length + 1≤K):∃ r,f356 K s = some r∧r.length≤6 * s.length + 2:=by
  obtain ⟨z,h1,h2⟩:=quote_l hb s.length K 0 [34] (by omega) (by omega) (by omega) hK (by simp)
  unfold f356
  rw [h1,Option.bind_some]
  refine ⟨z ++ [34],?_,by simp; omega⟩
  show f356_j100 K z = _
  unfold f356_j100
  rw [gdp (by simp; omega)]
def ahead (v:TJson) (us:List TJson) (i:Nat):Nat:=((us.take i).map jbk).sum + ((v.fKeys.take i).map fun x=>x.length + 1).sum
theorem sum_take {α:Type} (f:α→Nat):∀ (l:List α) (i:Nat) (h:i < l.length),((l.take (i + 1)).map f).sum = ((l.take i).map f).sum + f l[i]
  | [],i,h=>by cases h
  | x :: r,0,h=>by simp
  | x :: r,i + 1,h=>by
    have:=sum_take f r i (by simpa using h)
    simp only [List.take_succ_cons,List.map_cons,List.sum_cons,List.getElem_cons_succ]
    omega
theorem sum_take_le {α:Type} (f:α→Nat):∀ (l:List α) (i:Nat),((l.take i).map f).sum≤(l.map f).sum
  | [],i=>by simp
  | x :: r,0=>by simp
  | x :: r,i + 1=>by
    have:=sum_take_le f r i
    simp only [List.take_succ_cons,List.map_cons,List.sum_cons]
    omega
theorem print_l {h:Nat} {v:TJson} (us:List TJson) (he:v.fL = us.map (RT.of TJson.ok)) (hu:∀ u∈us,TJ h u) (hq:v.fKind = 7→v.fKeys.length = v.fL.length) (hb:jbk v≤1000000) (rc:Y355) (hrc:∀ u,TJ h u→jbk u≤1000000→∃ r,rc u = some r∧r.length + 1≤6 * jbk u) :
    ∀ (j K:Nat) (i:Nat) (y:List UInt8),us.length≤i + j→i≤us.length→j + jbk v + 10≤K→y.length≤6 * ahead v us i + 1→∃ z,f355_l95 v rc K y (i:Int) = some (.b0 z)∧z.length≤6 * ahead v us us.length + 1:=by
  have hl:v.fL.length = us.length:=by rw [he,List.length_map]
  have hv:TJ (h + 1) ⟨0,[],v.fL,[]⟩:=⟨fun h=>(by cases h),fun h=>(by cases h),us,he,hu⟩
  have e0:=jbk_eq v us he
  have hall:∀ i,ahead v us i + 5≤jbk v:=fun i=>by
    have:=sum_take_le jbk us i
    have:=sum_take_le (fun x:List UInt8=>x.length + 1) v.fKeys i
    unfold ahead
    omega
  have hus:=(sum_ge us).1
  intro j
  induction j with
  | zero =>
    intro K i y hj hi hK hy
    obtain ⟨K,rfl⟩:∃ j,K = j + 1:=⟨K - 1,by omega⟩
    have:i = us.length:=by omega
    subst this
    exact ⟨y,by rw [f355_l95,cdn (by omega)],hy⟩
  | succ j ih =>
    intro K i y hj hi hK hy
    obtain ⟨K,rfl⟩:∃ j,K = j + 1:=⟨K - 1,by omega⟩
    have ha:=hall i
    by_cases c3:i < us.length
    · rw [f355_l95,cdp (by omega)]
      have hm:=List.getElem_mem c3
      have hju:=(sum_ge us).2 _ hm
      obtain ⟨r,hr,hrl⟩:=hrc us[i] (hu _ hm) (by omega)
      have hdec:TJson.dec (rtE (rd v.fL (i:Int))) = some us[i]:=by
        have:rd v.fL (i:Int) = RT.of TJson.ok us[i]:=by
          unfold rd
          rw [Int.toNat_natCast,he,←rd_get (by rw [List.length_map]; exact c3),List.getElem_map]
        rw [this,TJson.dec_of]
      have hA:ahead v us i + jbk us[i]≤ahead v us (i + 1):=by
        have:=sum_take jbk us i c3
        have h2:((v.fKeys.take i).map fun x=>x.length + 1).sum≤((v.fKeys.take (i + 1)).map fun x=>x.length + 1).sum:=by
          have:=sum_take_le (fun x:List UInt8=>x.length + 1) (v.fKeys.take (i + 1)) i
          rwa [List.take_take,Nat.min_eq_left (by omega)] at this
        unfold ahead
        omega
      have tail:∀ y':List UInt8,y'.length + 6 * jbk us[i]≤6 * ahead v us (i + 1) + 2→∃ z,f355_j145 (f355_l95 v rc K) K (i:Int) v rc y' = some (.b0 z)∧z.length≤6 * ahead v us us.length + 1:=by
        intro y' hy'
        have:=hall (i + 1)
        unfold f355_j145
        rw [gdp (by omega),hdec,Option.bind_some,hr,Option.bind_some,gdp (by omega),i64w (by omega),show (i:Int) + 1 = ((i + 1:Nat):Int) by omega]
        exact ih K (i + 1) _ (by omega) (by omega) (by omega) (by rw [List.length_append]; omega)
      have mid:∀ y':List UInt8,y'.length≤6 * ahead v us i + 2→∃ z,f355_j124 (f355_l95 v rc K) K v (i:Int) rc y' = some (.b0 z)∧z.length≤6 * ahead v us us.length + 1:=by
        intro y' hy'
        unfold f355_j124
        by_cases c1:v.fKind = 7
        · have hkl:=hq c1
          have hk2:=key_len (ks:=v.fKeys) (i:=(i:Int)) (by omega) (by omega)
          obtain ⟨r2,q1,q2⟩:=quote_at (s:=rd v.fKeys (i:Int)) (by omega) K (by omega)
          have hk3:rd v.fKeys (i:Int) = v.fKeys[i]'(by omega):=by
            unfold rd
            rw [Int.toNat_natCast,←rd_get (by omega)]
          have hA2:ahead v us i + jbk us[i] + ((rd v.fKeys (i:Int)).length + 1) = ahead v us (i + 1):=by
            have h1:=sum_take jbk us i c3
            have h2:=sum_take (fun x:List UInt8=>x.length + 1) v.fKeys i (by omega)
            unfold ahead
            rw [h1,h2,hk3]
            omega
          rw [cdp c1,gdp (by omega),q1,Option.bind_some,gdp (by omega),gdp (by simp; omega)]
          exact tail _ (by simp only [List.length_append,List.length_singleton]; omega)
        · rw [cdn c1]
          exact tail _ (by omega)
      by_cases c4:(i:Int) > 0
      · rw [cdp c4,gdp (by simp; omega)]
        exact mid _ (by simp only [List.length_append,List.length_singleton]; omega)
      · rw [cdn c4]
        exact mid _ (by omega)
    · have:i = us.length:=by omega
      subst this
      exact ⟨y,by rw [f355_l95,cdn (by omega)],hy⟩
theorem print_h:∀ (h:Nat) (K:Nat) (v:TJson),TJ h v→jbk v≤1000000→h + 2000100≤K→∃ r,f355 K v = some r∧r.length + 1≤6 * jbk v
  | 0,K,v,hv,_,_=>hv.elim
  | h + 1,K,v,hv,hb,hK=>by
    obtain ⟨K,rfl⟩:∃ j,K = j + 1:=⟨K - 1,by omega⟩
    obtain ⟨l1,l2,l3,l4⟩:=hv.lens
    have hpos:=jbk_pos v
    obtain ⟨_,hq,us,he,hu⟩:=hv
    have e0:=jbk_eq v us he
    have loop:∀ c:UInt8,∃ r,f355_j90 K v (f355 K) [c] = some r∧r.length + 1≤6 * jbk v:=by
      intro c
      obtain ⟨z,h1,h2⟩:=print_l us he hu hq hb (f355 K) (fun u hu hub=>print_h h K u hu hub (by omega)) us.length K 0 [c] (by omega) (by omega) (by have:=(sum_ge us).1; omega) (by simp)
      have hz:z.length + 2≤6 * jbk v:=by
        have:=sum_take_le jbk us us.length
        have:=sum_take_le (fun x:List UInt8=>x.length + 1) v.fKeys us.length
        have hA2:ahead v us us.length≤(us.map jbk).sum + (v.fKeys.map fun x=>x.length + 1).sum:=by unfold ahead; omega
        omega
      unfold f355_j90
      rw [show (0:Int) = ((0:Nat):Int) from rfl,h1,Option.bind_some]
      show ∃ r,f355_j161 K v z = some r∧_
      unfold f355_j161
      by_cases c1:v.fKind = 7
      · rw [cdp c1,gdp (by simp; omega)]
        exact ⟨_,rfl,by simp; omega⟩
      · rw [cdn c1,gdp (by simp; omega)]
        exact ⟨_,rfl,by simp; omega⟩
    rw [f355]
    unfold f355_s
    by_cases c1:v.fKind = 1
    · rw [cdp c1]; exact ⟨_,rfl,by simp; omega⟩
    rw [cdn c1]
    by_cases c2:v.fKind = 2
    · rw [cdp c2]; exact ⟨_,rfl,by simp; omega⟩
    rw [cdn c2]
    by_cases c3:v.fKind = 3
    · rw [cdp c3]; exact ⟨_,rfl,by simp; omega⟩
    rw [cdn c3]
    by_cases c4:v.fKind = 4
    · rw [cdp c4]; exact ⟨_,rfl,by omega⟩
    rw [cdn c4]
    by_cases c5:v.fKind = 5
    · rw [cdp c5]
      obtain ⟨r,q1,q2⟩:=quote_at (s:=v.fText) (by omega) K (by omega)
      rw [q1]
      exact ⟨r,rfl,by omega⟩
    rw [cdn c5]
    by_cases c6:v.fKind = 7
    · rw [cdp c6]; exact loop 123
    · rw [cdn c6]; exact loop 91
theorem print_at {h:Nat} {v:TJson} (K:Nat) (hv:TJ h v) (hb:jbk v≤1000000) (hK:h + 2000100≤K):∃ r,f354 K v = some r∧r.length≤6 * jbk v:=by
  unfold f354
  obtain ⟨b,hbb⟩:=right_at K hv hb hK
  rw [hbb,Option.bind_some]
  cases b with
  | false=>exact ⟨[],rfl,by simp⟩
  | true =>
    obtain ⟨r,h1,h2⟩:=print_h h K v hv hb hK
    show ∃ r,Option.bind (f355 K v) _ = some r∧_
    rw [h1]
    exact ⟨r,rfl,by omega⟩
end Go.Proofs.Abs
end
section
namespace Go.Proofs.Abs
open Go
set_option linter.unusedVariables false
set_option maxRecDepth 100000
variable {s:List UInt8}
theorem simple_l (hb:s.length≤3000000):∀ (j K:Nat) (i:Int),((s.length:Nat):Int) - i≤(j:Int)→0≤i→j + 1≤K→∃ z,f339_l10 s K i = some z∧(z = .b0 ()∨z = .r false):=by
  intro j
  have step:∀ (K:Nat) (i:Int),0≤i→(i < ((s.length:Nat):Int)→∃ z,f339_l10 s K (i + 1) = some z∧(z = .b0 ()∨z = .r false))→∃ z,f339_l10 s (K + 1) i = some z∧(z = .b0 ()∨z = .r false):=by
    intro K i h0 hn
    rw [f339_l10]
    by_cases c3:i < ((s.length:Nat):Int)
    · have hn:=hn c3
      rw [cdp c3,gdp (by omega),i64w (by omega)]
      generalize f339_l10 s K (i + 1) = w at hn
      have no:∃ z:LR2 Unit Unit Bool,(some (.r false):Option (LR2 Unit Unit Bool)) = some z∧(z = .b0 ()∨z = .r false):=⟨_,rfl,.inr rfl⟩
      generalize (((s.getD i.toNat 0).toNat:Nat):Int) = c
      simp only [Bool.cond_decide,Bool.cond_not]
      repeat' split
      all_goals first | exact hn | exact no
    · rw [cdn c3]; exact ⟨_,rfl,.inl rfl⟩
  induction j with
  | zero =>
    intro K i hj h0 hK
    obtain ⟨K,rfl⟩:∃ j,K = j + 1:=⟨K - 1,by omega⟩
    exact step K i h0 (fun h=>by omega)
  | succ j ih =>
    intro K i hj h0 hK
    obtain ⟨K,rfl⟩:∃ j,K = j + 1:=⟨K - 1,by omega⟩
    exact step K i h0 (fun h=>ih K (i + 1) (by omega) (by omega) (by omega))
theorem simple_at (hb:s.length≤3000000) (K:Nat) (hK:s.length + 1≤K):∃ b,f339 K s = some b∧(b = true→s.length≤100):=by
  obtain ⟨z,h1,h2⟩:=simple_l hb s.length K 0 (by omega) (by omega) hK
  unfold f339
  rw [h1,Option.bind_some]
  rcases h2 with rfl | rfl
  · show ∃ b,f339_j78 K s = some b∧_
    unfold f339_j78
    by_cases c:((s.length:Nat):Int) ≥ 1
    · rw [cdp c]
      exact ⟨_,rfl,fun h=>by have:=of_decide_eq_true h; omega⟩
    · rw [cdn c]; exact ⟨_,rfl,fun h=>by cases h⟩
  · exact ⟨false,rfl,fun h=>by cases h⟩
theorem last_l (hb:s.length≤3000000):∀ (j K:Nat) (i:Int),i < (j:Int)→i < ((s.length:Nat):Int)→-1≤i→j + 1≤K→∃ z,f257_l13 s K i = some z∧(z = .b0 ()∨∃ m,z = .r m∧0≤m∧m < ((s.length:Nat):Int)):=by
  intro j
  induction j with
  | zero =>
    intro K i hj h1 h2 hK
    obtain ⟨K,rfl⟩:∃ j,K = j + 1:=⟨K - 1,by omega⟩
    exact ⟨.b0 (),by rw [f257_l13,cdn (by omega)],.inl rfl⟩
  | succ j ih =>
    intro K i hj h1 h2 hK
    obtain ⟨K,rfl⟩:∃ j,K = j + 1:=⟨K - 1,by omega⟩
    by_cases c:i ≥ 0
    · rw [f257_l13,cdp c,gdp (by omega)]
      by_cases c2:(((s.getD i.toNat 0).toNat:Nat):Int) = 46
      · rw [cdp c2]; exact ⟨_,rfl,.inr ⟨i,rfl,c,h1⟩⟩
      · rw [cdn c2,i64w (by omega)]
        exact ih K (i - 1) (by omega) (by omega) (by omega) (by omega)
    · exact ⟨.b0 (),by rw [f257_l13,cdn c],.inl rfl⟩
theorem last_at (hb:s.length≤3000000) (K:Nat) (hK:s.length + 2≤K):∃ m,f257 K s = some m∧-1≤m∧m < ((s.length:Nat):Int):=by
  unfold f257
  rw [i64w (by omega)]
  obtain ⟨z,h1,h2⟩:=last_l hb s.length K (((s.length:Nat):Int) - 1) (by omega) (by omega) (by omega) (by omega)
  rw [h1,Option.bind_some]
  rcases h2 with rfl | ⟨m,rfl,h2,h3⟩
  · exact ⟨-1,rfl,by omega,by omega⟩
  · exact ⟨m,rfl,by omega,h3⟩
theorem space_at (hb:s.length≤3000000) (K:Nat) (hK:s.length + 2≤K):∃ x,f343 K s = some x∧x.length≤s.length:=by
  unfold f343
  obtain ⟨m,h1,h2,h3⟩:=last_at hb K hK
  rw [h1,Option.bind_some]
  rw [gdp (by omega)]
  refine ⟨_,rfl,?_⟩
  have:=sl_len2 s (a:=0) (b:=max 0 m) (by omega) (by omega) (by omega)
  omega
theorem full_l (hb:s.length≤3000000):∀ (j K:Nat) (a i:Int),((s.length:Nat):Int) - i < (j:Int)→0≤a→a≤i→i≤((s.length:Nat):Int) + 1→(i≤((s.length:Nat):Int)∨a≤i)→j + s.length + 3≤K→∃ z,f340_l14 s K a i = some z∧(z = .b0 ()∨z = .r false):=by
  intro j
  induction j with
  | zero =>
    intro K a i hj h0 h1 h2 _ hK
    obtain ⟨K,rfl⟩:∃ j,K = j + 1:=⟨K - 1,by omega⟩
    exact ⟨.b0 (),by rw [f340_l14,cdn (by omega)],.inl rfl⟩
  | succ j ih =>
    intro K a i hj h0 h1 h2 _ hK
    obtain ⟨K,rfl⟩:∃ j,K = j + 1:=⟨K - 1,by omega⟩
    by_cases c:i≤((s.length:Nat):Int)
    · rw [f340_l14,cdp c]
      have key:∀ b,∃ z,f340_j42 (f340_l14 s K) K a i s b = some z∧(z = .b0 ()∨z = .r false):=by
        intro b
        unfold f340_j42
        rw [i64w (by omega)]
        cases b with
        | false=>exact ih K a (i + 1) (by omega) h0 (by omega) (by omega) (.inr (by omega)) (by omega)
        | true =>
          have hsl:=sl_len2 s (a:=a) (b:=i) h0 h1 c
          obtain ⟨b,hbb,_⟩:=simple_at (s:=sl s a i) (by omega) K (by omega)
          rw [cond_true,gdp (by omega),hbb,Option.bind_some]
          cases b with
          | false=>exact ⟨_,rfl,.inr rfl⟩
          | true=>exact ih K (i + 1) (i + 1) (by omega) (by omega) (by omega) (by omega) (.inr (by omega)) (by omega)
      by_cases c2:i = ((s.length:Nat):Int)
      · rw [cdp c2]; exact key true
      · rw [cdn c2,gdp (by omega)]; exact key _
    · exact ⟨.b0 (),by rw [f340_l14,cdn c],.inl rfl⟩
theorem full_at (hb:s.length≤3000000) (K:Nat) (hK:2 * s.length + 10≤K):∃ b,f340 K s = some b∧(b = true→s.length≤100):=by
  obtain ⟨z,h1,h2⟩:=full_l hb (s.length + 1) K 0 0 (by omega) (by omega) (by omega) (by omega) (.inl (by omega)) (by omega)
  unfold f340
  rw [h1,Option.bind_some]
  rcases h2 with rfl | rfl
  · exact ⟨_,rfl,fun h=>by have:=of_decide_eq_true h; omega⟩
  · exact ⟨false,rfl,fun h=>by cases h⟩
theorem prim_at (K:Nat) (s:List UInt8) (hK:10≤K):∃ k,f341 K s = some k∧0≤k∧k≤8:=by
  obtain ⟨K,rfl⟩:∃ j,K = j + 10:=⟨K - 10,by omega⟩
  have key:∀ (j:Nat) (i:Nat),i + j = 8→∃ z,f341_l15 s (K + 1 + j + 1) (i:Int) = some z∧(z = .b0 ()∨∃ m,z = .r m∧0≤m∧m≤8):=by
    intro j
    induction j with
    | zero =>
      intro i hi
      have:i = 8:=by omega
      subst this
      exact ⟨.b0 (),rfl,.inl rfl⟩
    | succ j ih =>
      intro i hi
      rw [f341_l15,cdp (by simp; omega),gdp (by simp; omega),i64w (by omega),show (i:Int) + 1 = ((i + 1:Nat):Int) by omega]
      generalize rd (α:=List UInt8) _ (i:Int) = w
      by_cases c:w = s
      · rw [cdp c]; exact ⟨_,rfl,.inr ⟨_,rfl,by omega,by omega⟩⟩
      · rw [cdn c]; exact ih (i + 1) (by omega)
  obtain ⟨z,h1,h2⟩:=key 8 0 rfl
  unfold f341
  show ∃ k,Option.bind (f341_l15 s (K + 1 + 8 + 1) ((0:Nat):Int)) _ = some k∧_
  rw [h1,Option.bind_some]
  rcases h2 with rfl | ⟨m,rfl,h2,h3⟩
  · exact ⟨0,rfl,by omega,by omega⟩
  · exact ⟨m,rfl,h2,h3⟩
theorem make_at (K:Nat) (a b:List UInt8) (ha:a.length≤1000000) (hb:b.length≤1000000) (hK:5000100≤K):∃ x q,f338 K a b = some (x,q)∧x.length≤100:=by
  have fin:∀ x:List UInt8,x.length≤100→∃ y q,f338_j125 K x = some (y,q)∧y.length≤100:=by
    intro x hx
    unfold f338_j125
    obtain ⟨m,h1,_,_⟩:=last_at (s:=x) (by omega) K (by omega)
    rw [h1,Option.bind_some]
    by_cases c:m < 0
    · rw [cdp c]
      obtain ⟨k,h2,_,_⟩:=prim_at K x (by omega)
      rw [h2,Option.bind_some]
      by_cases c2:k≠0
      · rw [cdp c2]; exact ⟨[],false,rfl,by simp⟩
      · rw [cdn c2]; exact ⟨x,true,rfl,hx⟩
    · rw [cdn c]; exact ⟨x,true,rfl,hx⟩
  have no:∃ y q,(some (([]:List UInt8),false):Option (List UInt8×Bool)) = some (y,q)∧y.length≤100:=⟨[],false,rfl,by simp⟩
  unfold f338
  by_cases c1:a = []
  · rw [cdp c1]; exact no
  have hl:0 < a.length:=List.length_pos_iff.2 c1
  rw [cdn c1,gdp (by omega)]
  by_cases c2:(((a.getD ((0:Int)).toNat 0).toNat:Nat):Int) = 46
  · rw [cdp c2,gdp (by omega)]
    have hsl:=sl_len2 a (a:=1) (b:=((a.length:Nat):Int)) (by omega) (by omega) (by omega)
    obtain ⟨q,h1,h2⟩:=simple_at (s:=sl a 1 ((a.length:Nat):Int)) (by omega) K (by omega)
    rw [h1,Option.bind_some]
    cases q with
    | false=>exact no
    | true=>exact fin _ (h2 rfl)
  · rw [cdn c2]
    obtain ⟨m,h1,_,_⟩:=last_at (s:=a) (by omega) K (by omega)
    rw [h1,Option.bind_some]
    by_cases c3:m ≥ 0
    · rw [cdp c3]
      obtain ⟨q,h1,h2⟩:=full_at (s:=a) (by omega) K (by omega)
      rw [h1,Option.bind_some]
      cases q with
      | false=>exact no
      | true=>exact fin _ (h2 rfl)
    · rw [cdn c3]
      obtain ⟨q,h1,h2⟩:=simple_at (s:=a) (by omega) K (by omega)
      rw [h1,Option.bind_some]
      cases q with
      | false=>exact no
      | true =>
        show ∃ y q,cond (decide (b≠[])) _ (f338_j125 K a) = some (y,q)∧_
        by_cases c4:b≠[]
        · rw [cdp c4,gdp (by simp; omega),gdp (by simp; omega)]
          obtain ⟨q,h3,_⟩:=full_at (s:=b) (by omega) K (by omega)
          rw [h3,Option.bind_some]
          cases q with
          | false=>exact no
          | true =>
            obtain ⟨q,h4,h5⟩:=full_at (s:=(b ++ [46]) ++ a) (by simp; omega) K (by simp; omega)
            show ∃ y q,Option.bind (f340 K ((b ++ [46]) ++ a)) _ = some (y,q)∧_
            rw [h4,Option.bind_some]
            cases q with
            | false=>exact no
            | true=>exact fin _ (h5 rfl)
        · rw [cdn c4]; exact fin _ (h2 rfl)
end Go.Proofs.Abs
end
section
namespace Go.Proofs.Abs
open Go
set_option linter.unusedVariables false
set_option maxRecDepth 100000
structure NodeOk (N:Nat) (x:TNode):Prop where
  kind:1≤x.fKind∧x.fKind≤14
  items:0≤x.fItems∧x.fItems < (N:Int)
  brs:∀ b∈x.fBranches,0≤b∧b < (N:Int)
  fds:∀ f∈x.fFields,(0≤f.fType∧f.fType < (N:Int))∧f.fAliases.length≤1000000
  lens:x.fBranches.length≤1000000∧x.fFields.length≤1000000∧x.fSymbols.length≤1000000∧x.fAliases.length≤1000000∧x.fName.length≤1000000
theorem NodeOk.mono {N N':Nat} {x:TNode} (h:NodeOk N x) (hle:N≤N'):NodeOk N' x :=
  ⟨h.kind,⟨h.items.1,by have:=h.items.2; omega⟩,fun b hb=>⟨(h.brs b hb).1,by have:=(h.brs b hb).2; omega⟩,fun f hf=>⟨⟨(h.fds f hf).1.1,by have:=(h.fds f hf).1.2; omega⟩,(h.fds f hf).2⟩,h.lens⟩
structure Inv (xs:List TNode):Prop where
  len:xs.length≤200
  ok:∀ x∈xs,NodeOk xs.length x
theorem setAt_len {α:Type} [Inhabited α] (xs:List α) (i:Nat) (F:α→α):(setAt xs i F).length = xs.length:=by
  unfold setAt; rw [List.length_set]
theorem getD_mem {α:Type} [Inhabited α] {xs:List α} {i:Nat} (h:i < xs.length):xs.getD i default∈xs:=by
  rw [←rd_get h]; exact List.getElem_mem h
theorem setAt_get {α:Type} [Inhabited α] {xs:List α} {i:Nat} (F:α→α) (h:i < xs.length):(setAt xs i F).getD i default = F (xs.getD i default):=by
  unfold setAt
  simp [h]
theorem Inv.set {xs:List TNode} {i:Nat} {F:TNode→TNode} (h:Inv xs) (hi:i < xs.length) (hF:NodeOk xs.length (xs.getD i default)→NodeOk xs.length (F (xs.getD i default))):Inv (setAt xs i F):=by
  refine ⟨by rw [setAt_len]; exact h.len,fun x hx=>?_⟩
  rw [setAt_len]
  unfold setAt at hx
  rcases List.mem_or_eq_of_mem_set hx with hx | rfl
  · exact h.ok x hx
  · exact hF (h.ok _ (getD_mem hi))
theorem Inv.get {xs:List TNode} {i:Nat} (h:Inv xs) (hi:i < xs.length):NodeOk xs.length (xs.getD i default):=h.ok _ (getD_mem hi)
def OneT (xs:List TNode) (e:Int) (o:Option (Int×Nat×Int×(List TNode))):Prop :=
  ∃ r e' xs',o = some (r,xs'.length,e',xs')∧Inv xs'∧xs.length≤xs'.length∧(e≠0→e'≠0)∧(e' = 0→0≤r∧r < ((xs'.length:Nat):Int))
theorem failB (K:Nat) (xs:List TNode) (m n:Nat) (e x:Int):f362 K xs m n e x = some (if e = 0 then x else e):=by
  unfold f362
  by_cases h:e = 0
  · rw [cdp h,if_pos h]
  · rw [cdn h,if_neg h]
theorem if_ne {e x:Int} (hx:x≠0):(if e = 0 then x else e)≠0:=by split <;> assumption
def newN (k:Int):TNode:=⟨k,[],[],[],[],false,[],0,[],0⟩
theorem newN_ok {N:Nat} {k:Int} (h:1≤k∧k≤14) (hN:0 < N):NodeOk N (newN k) :=
  ⟨h,⟨Int.le_refl _,(by show (0:Int) < _; omega)⟩,fun b hb=>(List.not_mem_nil (show b∈([]:List Int) from hb)).elim,fun f hf=>(List.not_mem_nil (show f∈([]:List TField) from hf)).elim,(by simp [newN])⟩
theorem node_at (K:Nat) (xs:List TNode) (m:Nat) (e k:Int) (hI:Inv xs) (hm:m≤xs.length) (hk:1≤k∧k≤14) :
    ∃ r e' xs',f363 K xs m xs.length e k = some (r,xs'.length,e',xs')∧Inv xs'∧xs.length≤xs'.length∧(e≠0→e'≠0)∧(e' = 0→r = ((xs.length:Nat):Int)∧xs' = xs ++ [newN k]):=by
  unfold f363
  have hl:=hI.len
  by_cases h:((xs.length:Nat):Int) ≥ 200
  · rw [cdp h,failB,Option.bind_some]
    exact ⟨0,_,xs,rfl,hI,Nat.le_refl _,fun _=>if_ne (by decide),fun h=>absurd h (if_ne (by decide))⟩
  · rw [cdn h,gdp ⟨rfl,hm,by omega⟩,i64w (by omega)]
    refine ⟨((xs.length:Nat):Int),e,xs ++ [newN k],?_,⟨by simp; omega,fun x hx=>?_⟩,by simp,fun h=>h,fun _=>⟨rfl,rfl⟩⟩
    · rw [List.length_append,List.length_singleton,show (((xs.length + 1:Nat):Int) - 1) = ((xs.length:Nat):Int) by omega]
      rfl
    · rw [List.length_append,List.length_singleton]
      rcases List.mem_append.1 hx with hx | hx
      · exact (hI.ok x hx).mono (by omega)
      · rw [List.mem_singleton.1 hx]; exact newN_ok hk (by omega)
theorem def_l (xs:List TNode) (q:List UInt8) (hb:xs.length≤200):∀ (j K:Nat) (i:Int),((xs.length:Nat):Int) - i≤(j:Int)→0≤i→j + 1≤K→∃ z,f364_l10 xs.length xs q K i = some z∧(z = .b0 ()∨∃ m,z = .r m∧0≤m∧m < ((xs.length:Nat):Int)):=by
  intro j
  induction j with
  | zero =>
    intro K i hj h0 hK
    obtain ⟨K,rfl⟩:∃ j,K = j + 1:=⟨K - 1,by omega⟩
    exact ⟨.b0 (),by rw [f364_l10,cdn (by omega)],.inl rfl⟩
  | succ j ih =>
    intro K i hj h0 hK
    obtain ⟨K,rfl⟩:∃ j,K = j + 1:=⟨K - 1,by omega⟩
    by_cases c:i < ((xs.length:Nat):Int)
    · have hn:=ih K (i + 1) (by omega) (by omega) (by omega)
      rw [f364_l10,cdp c,gdp (by omega),gdp (by omega),i64w (by omega)]
      by_cases c1:(List.getD xs i.toNat default).fName = q
      · rw [cdp c1]
        by_cases c2:q≠[]
        · rw [cdp c2]; exact ⟨_,rfl,.inr ⟨i,rfl,h0,c⟩⟩
        · rw [cdn c2]; exact hn
      · rw [cdn c1]; exact hn
    · exact ⟨.b0 (),by rw [f364_l10,cdn c],.inl rfl⟩
theorem def_at (K:Nat) (xs:List TNode) (m:Nat) (e:Int) (q:List UInt8) (hb:xs.length≤200) (hK:300≤K):∃ r,f364 K xs m xs.length e q = some r∧-1≤r∧r < ((xs.length:Nat):Int):=by
  obtain ⟨z,h1,h2⟩:=def_l xs q hb xs.length K 0 (by omega) (by omega) (by omega)
  unfold f364
  rw [h1,Option.bind_some]
  rcases h2 with rfl | ⟨m,rfl,h2,h3⟩
  · exact ⟨-1,rfl,by omega,by omega⟩
  · exact ⟨m,rfl,by omega,h3⟩
theorem named_at (K:Nat) (xs:List TNode) (m:Nat) (e:Int) (a sp:List UInt8) (hI:Inv xs) (hm:m≤xs.length) (ha:a.length≤1000000) (hsp:sp.length≤1000000) (hK:5000100≤K):OneT xs e (f358 K xs m xs.length e a sp):=by
  unfold f358
  obtain ⟨k,h1,k0,k1⟩:=prim_at K a (by omega)
  rw [h1,Option.bind_some]
  by_cases c:k≠0
  · rw [cdp c]
    obtain ⟨r,e',xs',g1,g2,g3,g4,g5⟩:=node_at K xs m e k hI hm ⟨by omega,by omega⟩
    rw [g1,Option.bind_some]
    refine ⟨r,e',xs',rfl,g2,g3,g4,fun he=>?_⟩
    obtain ⟨w1,w2⟩:=g5 he
    rw [w1,w2,List.length_append,List.length_singleton]
    omega
  · rw [cdn c]
    obtain ⟨x,q,g1,_⟩:=make_at K a sp ha hsp (by omega)
    rw [g1,Option.bind_some]
    obtain ⟨r,h2,h3,h4⟩:=def_at K xs m e x hI.len (by omega)
    have no:OneT xs e (f358_j49 K xs m xs.length e (x,q) false):=by
      unfold f358_j49
      rw [cond_false,failB,Option.bind_some]
      exact ⟨0,_,xs,rfl,hI,Nat.le_refl _,fun _=>if_ne (by decide),fun h=>absurd h (if_ne (by decide))⟩
    cases q with
    | false=>exact no
    | true =>
      show OneT xs e (Option.bind (f364 K xs m xs.length e x) _)
      rw [h2,Option.bind_some]
      by_cases c2:r ≥ 0
      · rw [decide_eq_true c2]
        unfold f358_j49
        rw [cond_true]
        show OneT xs e (Option.bind (f364 K xs m xs.length e x) _)
        rw [h2,Option.bind_some]
        exact ⟨r,e,xs,rfl,hI,Nat.le_refl _,fun h=>h,fun _=>⟨c2,h4⟩⟩
      · rw [decide_eq_false c2]; exact no
theorem ali_l {h:Nat} {v:TJson} (hv:TJ (h + 1) v) (hb:jbk v≤200000) (b:Bool) (x:List UInt8) (y:Int) (z:List UInt8) (q:List (List UInt8)) (sp:List UInt8) (hsp:sp.length≤1000000) (c:Bool) (xs:List TNode) (m n:Nat) (e:Int) :
    ∀ (j K:Nat) (i:Int) (L:List (List UInt8)),((v.fL.length:Nat):Int) - i≤(j:Int)→0≤i→i≤((v.fL.length:Nat):Int)→j + 5000101≤K→(L.length:Int) = i →
    ∃ w,f365_l58 (b,y,z,v.fL,q) c sp xs m n e K L i = some w∧((∃ l,w = .b0 l∧l.length≤200000)∨∃ e',w = .r ([],e')∧e'≠0):=by
  obtain ⟨l1,l2,_,_⟩:=hv.lens
  intro j
  induction j with
  | zero =>
    intro K i L hj h0 hi hK hL
    obtain ⟨K,rfl⟩:∃ j,K = j + 1:=⟨K - 1,by omega⟩
    exact ⟨.b0 L,by rw [f365_l58]; exact cdn (by show ¬ i < ((v.fL.length:Nat):Int); omega),.inl ⟨L,rfl,by omega⟩⟩
  | succ j ih =>
    intro K i L hj h0 hi hK hL
    obtain ⟨K,rfl⟩:∃ j,K = j + 1:=⟨K - 1,by omega⟩
    by_cases c3:i < ((v.fL.length:Nat):Int)
    · obtain ⟨u,e1,e2,e3⟩:=hv.part h0 c3
      have hul:=e2.lens.2.2.1
      have j115:∀ (t:List UInt8) (k:Bool),∃ w,f365_j115 (f365_l58 (b,y,z,v.fL,q) c sp xs m n e K) K i (b,y,z,v.fL,q) xs m n e L t k = some w∧((∃ l,w = .b0 l∧l.length≤200000)∨∃ e',w = .r ([],e')∧e'≠0):=by
        intro t k
        unfold f365_j115
        show ∃ w,gd (0≤i∧i < ((v.fL.length:Nat):Int)) (Option.bind (TJson.dec (rtE (rd v.fL i))) _) = some w∧_
        rw [gdp (by omega),e1,Option.bind_some]
        have j130:∀ bb,∃ w,f365_j130 (f365_l58 (b,y,z,v.fL,q) c sp xs m n e K) K xs m n e L t i bb = some w∧((∃ l,w = .b0 l∧l.length≤200000)∨∃ e',w = .r ([],e')∧e'≠0):=by
          intro bb
          unfold f365_j130
          cases bb with
          | true =>
            rw [cond_true,failB,Option.bind_some]
            exact ⟨_,rfl,.inr ⟨_,rfl,if_ne (by decide)⟩⟩
          | false =>
            rw [cond_false,gdp (by simp; omega),i64w (by omega)]
            exact ih K (i + 1) _ (by omega) (by omega) (by omega) (by omega) (by simp; omega)
        cases decide (u.fKind≠5)
        · rw [cond_false]; exact j130 _
        · rw [cond_true]; exact j130 _
      rw [f365_l58]
      show ∃ w,cond (decide (i < ((v.fL.length:Nat):Int))) (gd (0≤i∧i < ((v.fL.length:Nat):Int)) (Option.bind (TJson.dec (rtE (rd v.fL i))) _)) _ = some w∧_
      rw [cdp c3,gdp (by omega),e1,Option.bind_some]
      show ∃ w,gd (0≤i∧i < ((v.fL.length:Nat):Int)) (Option.bind (some u) _) = some w∧_
      rw [gdp (by omega),Option.bind_some]
      obtain ⟨g,g1,_⟩:=simple_at (s:=u.fText) (by omega) K (by omega)
      rw [g1,Option.bind_some]
      cases c with
      | true=>exact j115 _ _
      | false =>
        show ∃ w,gd (0≤i∧i < ((v.fL.length:Nat):Int)) (Option.bind (some u) _) = some w∧_
        rw [gdp (by omega),Option.bind_some]
        obtain ⟨t,k,g2,_⟩:=make_at K u.fText sp (by omega) hsp (by omega)
        rw [g2,Option.bind_some]
        exact j115 _ _
    · exact ⟨.b0 L,by rw [f365_l58]; exact cdn c3,.inl ⟨L,rfl,by omega⟩⟩
theorem ali_at {h:Nat} {v:TJson} (K:Nat) (xs:List TNode) (m n:Nat) (e:Int) (hv:TJ (h + 1) v) (hb:jbk v≤200000) (sp:List UInt8) (hsp:sp.length≤1000000) (c:Bool) (hK:5300000≤K) :
    ∃ l e',f365 K xs m n e v sp c = some (l,e')∧l.length≤200000∧(e≠0→e'≠0):=by
  unfold f365
  obtain ⟨b,k,t,l,ks,g1,g2,g3,g4⟩:=get_at [97,108,105,97,115,101,115] K hv (by omega) (by omega)
  rw [g1,Option.bind_some]
  cases b with
  | false=>exact ⟨[],e,rfl,by simp,fun h=>h⟩
  | true =>
    show ∃ l' e',cond (decide (k≠6)) _ _ = some (l',e')∧_
    by_cases c1:k≠6
    · rw [cdp c1,failB,Option.bind_some]
      exact ⟨[],_,rfl,by simp,fun _=>if_ne (by decide)⟩
    · rw [cdn c1]
      obtain ⟨w,h1,h2⟩:=ali_l (v:=⟨k,t,l,ks⟩) g2 (by omega) true t k t ks sp hsp c xs m n e l.length K 0 [] (by simp) (by omega) (by simp) (by have:=g2.lens.1; simp only at this; omega) rfl
      rw [h1,Option.bind_some]
      rcases h2 with ⟨l',rfl,h2⟩ | ⟨e',rfl,h2⟩
      · exact ⟨l',e,rfl,h2,fun h=>h⟩
      · exact ⟨[],e',rfl,by simp,fun _=>h2⟩
end Go.Proofs.Abs
end
section
namespace Go.Proofs.Abs
open Go
set_option linter.unusedVariables false
set_option maxRecDepth 100000
def RcB (h:Nat) (rc:Y357):Prop:=∀ (xs:List TNode) (m:Nat) (e:Int) (j:TJson) (sp:List UInt8),Inv xs→m≤xs.length→(e = 0→TJ h j∧jbk j≤200000)→sp.length≤1000000→OneT xs e (rc xs m xs.length e j sp)
theorem many_b {h:Nat} {j:TJson} (rc:Y357) (hrc:RcB h rc) (K:Nat) (xs:List TNode) (m:Nat) (e k:Int) (key sp:List UInt8) (hI:Inv xs) (hm:m≤xs.length) (hk:1≤k∧k≤14) (hj:TJ (h + 1) j) (hb:jbk j≤200000) (hsp:sp.length≤1000000) (hK:5300000≤K) :
    OneT xs e (f360 rc K xs m xs.length e k j key sp):=by
  unfold f360
  obtain ⟨r,e1,xs1,g1,g2,g3,g4,g5⟩:=node_at K xs m e k hI hm hk
  rw [g1,Option.bind_some]
  obtain ⟨b,k',t,l,ks,q1,q2,q3,q4⟩:=get_at key K hj (by omega) (by omega)
  rw [q1,Option.bind_some]
  have j37:∀ e2:Int,(e1≠0→e2≠0)→(e2 = 0→b = true)→OneT xs e (f360_j37 K rc (r,xs1.length,e1,xs1) m (b,k',t,l,ks) sp e2):=by
    intro e2 he12 heb
    unfold f360_j37
    obtain ⟨r3,e3,xs3,w1,w2,w3,w4,w5⟩:=hrc xs1 m e2 ⟨k',t,l,ks⟩ sp g2 (by omega) (fun he=>⟨(q4 (heb he)).1,by omega⟩) hsp
    show OneT xs e (Option.bind (rc xs1 m xs1.length e2 ⟨k',t,l,ks⟩ sp) _)
    rw [w1,Option.bind_some]
    show OneT xs e (cond (decide (e3 = 0)) (gd (0≤r∧r < ((xs3.length:Nat):Int)) (gd (m≤r.toNat∧r.toNat < xs3.length) (some (r,xs3.length,e3,(setAt xs3 r.toNat (fun w_=>{ w_ with fItems:=r3 })))))) (some (r,xs3.length,e3,xs3)))
    have hee:e≠0→e3≠0:=fun h=>w4 (he12 (g4 h))
    by_cases he3:e3 = 0
    · have he1:e1 = 0:=by
        by_cases h:e1 = 0
        · exact h
        · exact absurd he3 (w4 (he12 h))
      obtain ⟨v1,v2⟩:=g5 he1
      have hlen:xs1.length = xs.length + 1:=by rw [v2]; simp
      obtain ⟨u1,u2⟩:=w5 he3
      have hr:r.toNat < xs3.length:=by omega
      rw [cdp he3,gdp (by omega),gdp (by omega)]
      refine ⟨r,e3,_,by rw [setAt_len],w2.set hr (fun ok=>⟨ok.kind,⟨u1,u2⟩,ok.brs,ok.fds,ok.lens⟩),by rw [setAt_len]; omega,hee,fun _=>?_⟩
      rw [setAt_len]
      omega
    · rw [cdn he3]
      exact ⟨r,e3,xs3,rfl,w2,by omega,hee,fun h=>absurd h he3⟩
  cases b with
  | false =>
    show OneT xs e (Option.bind (f362 K xs1 m xs1.length e1 9) _)
    rw [failB,Option.bind_some]
    exact j37 _ (fun _=>if_ne (by decide)) (fun h=>absurd h (if_ne (by decide)))
  | true=>exact j37 e1 (fun h=>h) (fun _=>rfl)
theorem brs_l {h : Nat} {j : TJson} (rc : Y357) (hrc : RcB h rc) (m : Nat) (sp : List UInt8) (hj : TJ (h + 1) j) (hb : jbk j ≤ 200000) (hsp : sp.length ≤ 1000000) : ∀ (q K : Nat) (i : Int) (L : List Int) (xs : List TNode) (e : Int), ((j.fL.length : Nat) : Int) - i ≤ (q : Int) → 0 ≤ i → i ≤ ((j.fL.length : Nat) : Int) → q + 1 ≤ K → ((L.length : Nat) : Int) = i → Inv xs → m ≤ xs.length →
      (e = 0→∀ x∈L,0≤x∧x < ((xs.length:Nat):Int)) →
    ∃ L' e' xs',f359_l35 j rc m sp K L i xs.length e xs = some (.b0 (L',xs'.length,e',xs'))∧L'.length≤200000∧Inv xs'∧xs.length≤xs'.length∧(e≠0→e'≠0)∧(e' = 0→∀ x∈L',0≤x∧x < ((xs'.length:Nat):Int)):=by
  obtain ⟨l1,l2,_,_⟩:=hj.lens
  intro q
  induction q with
  | zero =>
    intro K i L xs e hq h0 hi hK hL hI hm hx
    obtain ⟨K,rfl⟩:∃ j,K = j + 1:=⟨K - 1,by omega⟩
    exact ⟨L,e,xs,by rw [f359_l35,cdn (by omega)],by omega,hI,Nat.le_refl _,fun h=>h,hx⟩
  | succ q ih =>
    intro K i L xs e hq h0 hi hK hL hI hm hx
    obtain ⟨K,rfl⟩:∃ j,K = j + 1:=⟨K - 1,by omega⟩
    by_cases c:i < ((j.fL.length:Nat):Int)
    · obtain ⟨u,e1,e2,e3⟩:=hj.part h0 c
      obtain ⟨r,e',xs',w1,w2,w3,w4,w5⟩:=hrc xs m e u sp hI hm (fun _=>⟨e2,by omega⟩) hsp
      obtain ⟨L',e'',xs'',v1,v2,v3,v4,v5,v6⟩:=ih K (i + 1) (L ++ [r]) xs' e' (by omega) (by omega) (by omega) (by omega) (by simp; omega) w2 (by omega) (fun he x hxm=>by
        have he0:e = 0:=by
          by_cases h:e = 0
          · exact h
          · exact absurd he (w4 h)
        rcases List.mem_append.1 hxm with hxm | hxm
        · have:=hx he0 x hxm; omega
        · rw [List.mem_singleton.1 hxm]; exact w5 he)
      refine ⟨L',e'',xs'',?_,v2,v3,by omega,fun h=>v5 (w4 h),v6⟩
      rw [f359_l35,cdp c,gdp (by omega),e1,Option.bind_some,w1,Option.bind_some,i64w (by omega)]
      show gd ((L.length + [r].length) * 2 * 8≤281474976710656) (f359_l35 j rc m sp K (L ++ [r]) (i + 1) xs'.length e' xs') = _
      rw [gdp (by simp; omega),v1]
    · exact ⟨L,e,xs,by rw [f359_l35,cdn c],by omega,hI,Nat.le_refl _,fun h=>h,hx⟩
theorem rd_of {α:Type} [Inhabited α] {L:List α} {P:α→Prop} {i:Int} (h0:0≤i) (h1:i < ((L.length:Nat):Int)) (h:∀ x∈L,P x):P (rd L i):=by
  have hl:i.toNat < L.length:=by omega
  unfold rd
  rw [←rd_get hl]
  exact h _ (List.getElem_mem hl)
theorem dup_l (y:Int) (L:List Int) (xs:List TNode) (r:Int×Nat×Int×List TNode) (m:Nat) (hL:L.length≤200000) (hy:0≤y∧y < ((L.length:Nat):Int)) (hx:∀ x∈L,0≤x∧x < ((xs.length:Nat):Int)):∀ (q K:Nat) (i e:Int),y - i≤(q:Int)→0≤i→q + 1≤K →
    ∃ e',f359_l149 y L xs.length xs r m K i e = some (.b0 e')∧(e≠0→e'≠0):=by
  intro q
  induction q with
  | zero =>
    intro K i e hq h0 hK
    obtain ⟨K,rfl⟩:∃ j,K = j + 1:=⟨K - 1,by omega⟩
    exact ⟨e,by rw [f359_l149,cdn (by omega)],fun h=>h⟩
  | succ q ih =>
    intro K i e hq h0 hK
    obtain ⟨K,rfl⟩:∃ j,K = j + 1:=⟨K - 1,by omega⟩
    by_cases c:i < y
    · have hr:=rd_of h0 (by omega) hx
      obtain ⟨e1,n1,n2⟩:=ih K (i + 1) e (by omega) (by omega) (by omega)
      obtain ⟨e2,n3,n4⟩:=ih K (i + 1) (if e = 0 then 9 else e) (by omega) (by omega) (by omega)
      have no:∃ e',f359_l149 y L xs.length xs r m K (i + 1) e = some (.b0 e')∧(e≠0→e'≠0):=⟨e1,n1,n2⟩
      have yes:∃ e',((f362 K (setAt xs r.1.toNat (fun w_=>{ w_ with fBranches:=L })) m xs.length e (9:Int)).bind fun r206=>f359_l149 y L xs.length xs r m K (i + 1) r206) = some (.b0 e')∧(e≠0→e'≠0):=by
        rw [failB,Option.bind_some]
        exact ⟨e2,n3,fun _=>n4 (if_ne (by decide))⟩
      rw [f359_l149,cdp c,gdp (by omega),gdp (by omega),gdp (by rw [setAt_len]; omega),i64w (by omega)]
      generalize (f362 K (setAt xs r.1.toNat (fun w_=>{ w_ with fBranches:=L })) m xs.length e (9:Int)).bind _ = A at yes
      generalize f359_l149 y L xs.length xs r m K (i + 1) e = B at no
      have last:∃ e',gd (0≤i∧i < ((L.length:Nat):Int)) (gd (0≤y∧y < ((L.length:Nat):Int)) (cond (decide (rd L i = rd L y)) A B)) = some (.b0 e')∧(e≠0→e'≠0):=by
        rw [gdp (by omega),gdp (by omega)]
        cases decide (rd L i = rd L y)
        · exact no
        · exact yes
      generalize gd (0≤i∧i < ((L.length:Nat):Int)) (gd (0≤y∧y < ((L.length:Nat):Int)) (cond (decide (rd L i = rd L y)) A B)) = C at last
      simp only [Bool.cond_decide]
      repeat' split
      all_goals first | exact no | exact yes | exact last
    · exact ⟨e,by rw [f359_l149,cdn c],fun h=>h⟩
theorem kin_l (L:List Int) (xs:List TNode) (r:Int×Nat×Int×List TNode) (m:Nat) (hL:L.length≤200000) (hx:∀ x∈L,0≤x∧x < ((xs.length:Nat):Int)):∀ (q K:Nat) (i e:Int),((L.length:Nat):Int) - i≤(q:Int)→0≤i→q + 200010≤K →
    ∃ e',f359_l103 L xs.length xs r m K i e = some (.b0 e')∧(e≠0→e'≠0):=by
  intro q
  induction q with
  | zero =>
    intro K i e hq h0 hK
    obtain ⟨K,rfl⟩:∃ j,K = j + 1:=⟨K - 1,by omega⟩
    exact ⟨e,by rw [f359_l103,cdn (by omega)],fun h=>h⟩
  | succ q ih =>
    intro K i e hq h0 hK
    obtain ⟨K,rfl⟩:∃ j,K = j + 1:=⟨K - 1,by omega⟩
    by_cases c:i < ((L.length:Nat):Int)
    · have hr:=rd_of h0 c hx
      have j145:∀ e1,(e≠0→e1≠0)→∃ e',f359_j145 (f359_l103 L xs.length xs r m K) K i L xs.length xs r m e1 = some (.b0 e')∧(e≠0→e'≠0):=by
        intro e1 he1
        unfold f359_j145
        obtain ⟨e2,a1,a2⟩:=dup_l i L xs r m hL ⟨h0,c⟩ hx i.toNat K 0 e1 (by omega) (by omega) (by omega)
        rw [a1,Option.bind_some]
        show ∃ e',f359_l103 L xs.length xs r m K (IntKind.i64.wrap (i + 1)) e2 = some (.b0 e')∧_
        rw [i64w (by omega)]
        obtain ⟨e3,b1,b2⟩:=ih K (i + 1) e2 (by omega) (by omega) (by omega)
        exact ⟨e3,b1,fun h=>b2 (a2 (he1 h))⟩
      rw [f359_l103,cdp c,gdp (by omega),gdp (by omega),gdp (by rw [setAt_len]; omega)]
      cases decide ((List.getD (setAt xs r.1.toNat (fun w_=>{ w_ with fBranches:=L })) ((rd L i)).toNat default).fKind = (13:Int)) with
      | true =>
        rw [cond_true,failB,Option.bind_some]
        exact j145 _ (fun _=>if_ne (by decide))
      | false=>exact j145 e (fun h=>h)
    · exact ⟨e,by rw [f359_l103,cdn c],fun h=>h⟩
theorem union_b {h:Nat} {j:TJson} (rc:Y357) (hrc:RcB h rc) (K:Nat) (xs:List TNode) (m:Nat) (e:Int) (sp:List UInt8) (hI:Inv xs) (hm:m≤xs.length) (hj:TJ (h + 1) j) (hb:jbk j≤200000) (hsp:sp.length≤1000000) (hK:5300000≤K) :
    OneT xs e (f359 rc K xs m xs.length e j sp):=by
  obtain ⟨l1,l2,_,_⟩:=hj.lens
  unfold f359
  obtain ⟨r,e1,xs1,g1,g2,g3,g4,g5⟩:=node_at K xs m e 13 hI hm (by omega)
  rw [g1,Option.bind_some]
  have j26:∀ e2:Int,(e1≠0→e2≠0)→OneT xs e (f359_j26 K j rc m sp (r,xs1.length,e1,xs1) e2):=by
    intro e2 he12
    unfold f359_j26
    obtain ⟨L',e3,xs3,w1,w2,w3,w4,w5,w6⟩:=brs_l rc hrc m sp hj hb hsp j.fL.length K 0 [] xs1 e2 (by omega) (by omega) (by omega) (by omega) rfl g2 (by omega) (fun _ x hx=>by cases hx)
    show OneT xs e (Option.bind (f359_l35 j rc m sp K [] 0 xs1.length e2 xs1) _)
    rw [w1,Option.bind_some]
    show OneT xs e (f359_j70 K (r,xs1.length,e1,xs1) m L' xs3.length e3 xs3)
    unfold f359_j70
    have hee:e≠0→e3≠0:=fun h=>w5 (he12 (g4 h))
    by_cases he3:e3≠0
    · rw [cdp he3]
      exact ⟨0,e3,xs3,rfl,w3,by omega,fun _=>he3,fun h=>absurd h he3⟩
    · rw [cdn he3]
      have he3:e3 = 0:=by
        by_cases h:e3 = 0
        · exact h
        · exact absurd h he3
      have he1:e1 = 0:=by
        by_cases h:e1 = 0
        · exact h
        · exact absurd he3 (w5 (he12 h))
      obtain ⟨v1,v2⟩:=g5 he1
      have hlen:xs1.length = xs.length + 1:=by rw [v2]; simp
      have hx:=w6 he3
      obtain ⟨e4,a1,a2⟩:=kin_l L' xs3 (r,xs1.length,e1,xs1) m w2 hx L'.length K 0 e3 (by omega) (by omega) (by omega)
      show OneT xs e (gd (0≤r∧r < ((xs3.length:Nat):Int)) (gd (m≤r.toNat∧r.toNat < xs3.length) (Option.bind (f359_l103 L' xs3.length xs3 (r,xs1.length,e1,xs1) m K 0 e3) _)))
      rw [gdp (by omega),gdp (by omega),a1,Option.bind_some]
      refine ⟨r,e4,setAt xs3 r.toNat (fun w_=>{ w_ with fBranches:=L' }),by rw [setAt_len],w3.set (by omega) (fun ok=>⟨ok.kind,ok.items,hx,ok.fds,⟨by simp only; omega,ok.lens.2⟩⟩),by rw [setAt_len]; omega,fun h=>a2 (hee h),fun _=>?_⟩
      rw [setAt_len]
      omega
  by_cases c:((j.fL.length:Nat):Int) = 0
  · rw [cdp c]
    show OneT xs e (Option.bind (f362 K xs1 m xs1.length e1 9) _)
    rw [failB,Option.bind_some]
    exact j26 _ (fun _=>if_ne (by decide))
  · rw [cdn c]
    exact j26 e1 (fun h=>h)
theorem sym_l {h:Nat} {v:TJson} (hv:TJ (h + 1) v) (hb:jbk v≤200000) (b:Bool) (x:Int) (y:List UInt8) (z:List (List UInt8)) (xs:List TNode) (m n:Nat) (e:Int) :
    ∀ (q K:Nat) (i:Int) (L:List (List UInt8)),((v.fL.length:Nat):Int) - i≤(q:Int)→0≤i→i≤((v.fL.length:Nat):Int)→q + 1000101≤K→((L.length:Nat):Int) = i →
    ∃ w,f367_l50 (b,x,y,v.fL,z) xs m n e K L i = some w∧((∃ l,w = .b0 l∧l.length≤200000)∨∃ e',w = .r (e',xs)∧e'≠0):=by
  obtain ⟨l1,l2,_,_⟩:=hv.lens
  intro q
  induction q with
  | zero =>
    intro K i L hj h0 hi hK hL
    obtain ⟨K,rfl⟩:∃ j,K = j + 1:=⟨K - 1,by omega⟩
    exact ⟨.b0 L,by rw [f367_l50]; exact cdn (by show ¬ i < ((v.fL.length:Nat):Int); omega),.inl ⟨L,rfl,by omega⟩⟩
  | succ q ih =>
    intro K i L hj h0 hi hK hL
    obtain ⟨K,rfl⟩:∃ j,K = j + 1:=⟨K - 1,by omega⟩
    by_cases c:i < ((v.fL.length:Nat):Int)
    · obtain ⟨u,e1,e2,e3⟩:=hv.part h0 c
      have hul:=e2.lens.2.2.1
      have bad:∀ x:Int,x≠0→∃ w,((f362 K xs m n e x).bind fun r92=>(some (.r (r92,xs)):Option (LR2 (List (List UInt8)) Unit (Int×(List TNode))))) = some w∧((∃ l,w = .b0 l∧l.length≤200000)∨∃ e',w = .r (e',xs)∧e'≠0):=by
        intro x hx
        rw [failB,Option.bind_some]
        exact ⟨_,rfl,.inr ⟨_,rfl,if_ne hx⟩⟩
      rw [f367_l50]
      show ∃ w,cond (decide (i < ((v.fL.length:Nat):Int))) (gd (0≤i∧i < ((v.fL.length:Nat):Int)) (Option.bind (TJson.dec (rtE (rd v.fL i))) _)) _ = some w∧_
      rw [cdp c,gdp (by omega),e1,Option.bind_some]
      by_cases c1:u.fKind≠5
      · rw [cdp c1]; exact bad 6 (by decide)
      rw [cdn c1]
      show ∃ w,gd (0≤i∧i < ((v.fL.length:Nat):Int)) (Option.bind (some u) _) = some w∧_
      rw [gdp (by omega),Option.bind_some]
      obtain ⟨g,g1,_⟩:=simple_at (s:=u.fText) (by omega) K (by omega)
      rw [g1,Option.bind_some]
      cases g with
      | false=>exact bad 6 (by decide)
      | true =>
        show ∃ w,gd (0≤i∧i < ((v.fL.length:Nat):Int)) (Option.bind (some u) _) = some w∧_
        rw [gdp (by omega),Option.bind_some]
        obtain ⟨g,g1⟩:=has_at K L u.fText (by omega) (by omega)
        rw [g1,Option.bind_some]
        cases g with
        | true=>exact bad 7 (by decide)
        | false =>
          show ∃ w,gd (0≤i∧i < ((v.fL.length:Nat):Int)) (Option.bind (some u) _) = some w∧_
          rw [gdp (by omega),Option.bind_some,gdp (by simp; omega),i64w (by omega)]
          exact ih K (i + 1) _ (by omega) (by omega) (by omega) (by omega) (by simp; omega)
    · exact ⟨.b0 L,by rw [f367_l50]; exact cdn c,.inl ⟨L,rfl,by omega⟩⟩
theorem sym_b {h:Nat} {j:TJson} (K:Nat) (xs:List TNode) (m:Nat) (e i:Int) (hI:Inv xs) (hi:0≤i∧m≤i.toNat∧i.toNat < xs.length) (hj:TJ (h + 1) j) (hb:jbk j≤200000) (hK:5300000≤K) :
    ∃ e' xs',f367 K xs m xs.length e i j = some (e',xs')∧Inv xs'∧xs'.length = xs.length∧(e≠0→e'≠0):=by
  unfold f367
  obtain ⟨b,k,t,l,ks,q1,q2,q3,q4⟩:=get_at [115,121,109,98,111,108,115] K hj (by omega) (by omega)
  rw [q1,Option.bind_some]
  have bad:∀ x:Int,x≠0→∃ e' xs',((f362 K xs m xs.length e x).bind fun r38=>(some (r38,xs):Option (Int×List TNode))) = some (e',xs')∧Inv xs'∧xs'.length = xs.length∧(e≠0→e'≠0):=by
    intro x hx
    rw [failB,Option.bind_some]
    exact ⟨_,xs,rfl,hI,rfl,fun _=>if_ne hx⟩
  cases b with
  | false=>exact bad 9 (by decide)
  | true =>
    show ∃ e' xs',cond (decide (k≠6)) _ (cond (decide (((l.length:Nat):Int) = 0)) _ _) = some (e',xs')∧_
    by_cases c1:k≠6
    · rw [cdp c1]; exact bad 9 (by decide)
    rw [cdn c1]
    by_cases c2:((l.length:Nat):Int) = 0
    · rw [cdp c2]; exact bad 9 (by decide)
    rw [cdn c2]
    have hll:=q2.lens.1
    simp only at hll
    obtain ⟨w,h1,h2⟩:=sym_l (v:=⟨k,t,l,ks⟩) q2 (by omega) true k t ks xs m xs.length e l.length K 0 [] (by simp) (by omega) (by simp) (by omega) rfl
    rw [h1,Option.bind_some]
    rcases h2 with ⟨L,rfl,h2⟩ | ⟨e',rfl,h2⟩
    · show ∃ e' xs',f367_j132 K j xs m xs.length e i L = some (e',xs')∧_
      unfold f367_j132
      obtain ⟨b,k,t,l,ks,q1,q2,q3,q4⟩:=get_at [100,101,102,97,117,108,116] K hj (by omega) (by omega)
      rw [q1,Option.bind_some]
      have ok:∃ e' xs',f367_j168 K i xs.length m xs L (b,k,t,l,ks) e = some (e',xs')∧Inv xs'∧xs'.length = xs.length∧(e≠0→e'≠0):=by
        unfold f367_j168
        rw [gdp (by omega),gdp (by omega),gdp (by omega),gdp (by rw [setAt_len]; omega),gdp (by omega),gdp (by rw [setAt_len,setAt_len]; omega)]
        refine ⟨e,_,rfl,?_,by rw [setAt_len,setAt_len,setAt_len],fun h=>h⟩
        refine Inv.set (Inv.set (hI.set hi.2.2 (fun ok=>⟨ok.kind,ok.items,ok.brs,ok.fds,⟨ok.lens.1,ok.lens.2.1,by simp only; omega,ok.lens.2.2.2⟩⟩)) (by rw [setAt_len]; exact hi.2.2) (fun ok=>⟨ok.kind,ok.items,ok.brs,ok.fds,ok.lens⟩)) (by rw [setAt_len,setAt_len]; exact hi.2.2) (fun ok=>⟨ok.kind,ok.items,ok.brs,ok.fds,ok.lens⟩)
      cases b with
      | false=>exact ok
      | true =>
        show ∃ e' xs',cond (decide (k≠5)) _ _ = some (e',xs')∧_
        by_cases c3:k≠5
        · rw [cdp c3]; exact bad 10 (by decide)
        · rw [cdn c3]
          obtain ⟨g,g1⟩:=has_at K L t (by omega) (by omega)
          show ∃ e' xs',Option.bind (f77 K L t) _ = some (e',xs')∧_
          rw [g1,Option.bind_some]
          cases g with
          | false=>exact bad 10 (by decide)
          | true=>exact ok
    · exact ⟨e',xs,rfl,hI,rfl,fun _=>h2⟩
end Go.Proofs.Abs
end
section
namespace Go.Proofs.Abs
open Go
set_option linter.unusedVariables false
set_option maxRecDepth 100000
def FdT (xs:List TNode) (e:Int) (w:LR2 (Nat×Int×(List TNode)×(List TField)) Unit (Nat×Int×(List TNode))):Prop :=
  ∃ e' xs',Inv xs'∧xs.length≤xs'.length∧(e≠0→e'≠0)∧((∃ fs,w = .b0 (xs'.length,e',xs',fs))∨w = .r (xs'.length,e',xs'))
theorem same_l (xs:List TNode) (fs:List TField) (i:Int) (m:Nat) (e:Int) (r:Bool×Int×List UInt8×List (RT 4)×List (List UInt8)) (hi:0≤i∧i.toNat < xs.length) (hm:m≤xs.length) (hf:fs.length≤200000):∀ (q K:Nat) (y:Int),((fs.length:Nat):Int) - y≤(q:Int)→0≤y→q + 1≤K →
    ∃ w,f366_l117 i xs.length xs fs r m e K y = some w∧(w = .b0 ()∨∃ e',w = .r (xs.length,e',xs)∧e'≠0):=by
  intro q
  induction q with
  | zero =>
    intro K y hq h0 hK
    obtain ⟨K,rfl⟩:∃ j,K = j + 1:=⟨K - 1,by omega⟩
    exact ⟨.b0 (),by rw [f366_l117,gdp (by omega),gdp (by omega),cdn (by omega)],.inl rfl⟩
  | succ q ih =>
    intro K y hq h0 hK
    obtain ⟨K,rfl⟩:∃ j,K = j + 1:=⟨K - 1,by omega⟩
    rw [f366_l117,gdp (by omega),gdp (by omega)]
    by_cases c:y < ((fs.length:Nat):Int)
    · rw [cdp c,gdp (by omega),gdp (by omega),gdp (by omega)]
      by_cases c1:(rd fs y).fName = r.2.2.1
      · rw [cdp c1,gdp (by omega),failB,Option.bind_some]
        exact ⟨_,rfl,.inr ⟨_,rfl,if_ne (by decide)⟩⟩
      · rw [cdn c1,i64w (by omega)]
        exact ih K (y + 1) (by omega) (by omega) (by omega)
    · exact ⟨.b0 (),by rw [cdn c],.inl rfl⟩
theorem fds_l {h:Nat} {v:TJson} (hh:h≤100) (rc:Y357) (hrc:RcB h rc) (hv:TJ (h + 1) v) (hb:jbk v≤200000) (b:Bool) (x:Int) (y:List UInt8) (z:List (List UInt8)) (m:Nat) (i:Int) (sp:List UInt8) (hsp:sp.length≤1000000) (h0i:0≤i) (hmi:m≤i.toNat) :
    ∀ (q K:Nat) (k:Int) (xs:List TNode) (e:Int) (fs:List TField),((v.fL.length:Nat):Int) - k≤(q:Int)→0≤k→k≤((v.fL.length:Nat):Int)→q + 5300001≤K→Inv xs→i.toNat < xs.length→((fs.length:Nat):Int) = k→(∀ f∈fs,(0≤f.fType∧f.fType < ((xs.length:Nat):Int))∧f.fAliases.length≤1000000) →
    ∃ w,f366_l39 (b,x,y,v.fL,z) m i rc sp K k xs.length e xs fs = some w∧FdT xs e w:=by
  obtain ⟨l1,l2,_,_⟩:=hv.lens
  intro q
  induction q with
  | zero =>
    intro K k xs e fs hq h0 hk hK hI hi hf hfs
    obtain ⟨K,rfl⟩:∃ j,K = j + 1:=⟨K - 1,by omega⟩
    exact ⟨.b0 (xs.length,e,xs,fs),by rw [f366_l39]; exact cdn (by show ¬ k < ((v.fL.length:Nat):Int); omega),e,xs,hI,Nat.le_refl _,fun h=>h,.inl ⟨fs,rfl⟩⟩
  | succ q ih =>
    intro K k xs e fs hq h0 hk hK hI hi hf hfs
    obtain ⟨K,rfl⟩:∃ j,K = j + 1:=⟨K - 1,by omega⟩
    by_cases c:k < ((v.fL.length:Nat):Int)
    · obtain ⟨u,e1,e2,e3⟩:=hv.part h0 c
      have hul:=e2.lens.2.2.1
      obtain ⟨h',rfl⟩:∃ h',h = h' + 1:=by
        cases h with
        | zero=>exact e2.elim
        | succ h=>exact ⟨h,rfl⟩
      have bad:∀ x:Int,x≠0→∃ w,gd (m≤xs.length∧i.toNat < xs.length) ((f362 K xs xs.length xs.length e x).bind fun r92=>(some (.r (xs.length,r92,xs)):Option (LR2 (Nat×Int×(List TNode)×(List TField)) Unit (Nat×Int×(List TNode))))) = some w∧FdT xs e w:=by
        intro x hx
        rw [gdp (by omega),failB,Option.bind_some]
        exact ⟨_,rfl,_,xs,hI,Nat.le_refl _,fun _=>if_ne hx,.inr rfl⟩
      rw [f366_l39]
      show ∃ w,cond (decide (k < ((v.fL.length:Nat):Int))) (gd (0≤k∧k < ((v.fL.length:Nat):Int)) (Option.bind (TJson.dec (rtE (rd v.fL k))) _)) _ = some w∧_
      rw [cdp c,gdp (by omega),e1,Option.bind_some]
      by_cases c1:u.fKind≠7
      · rw [cdp c1]; exact bad 9 (by decide)
      rw [cdn c1]
      obtain ⟨bn,kn,tn,ln,kkn,q1,q2,q3,q4⟩:=get_at [110,97,109,101] K e2 (by omega) (by omega)
      have htn:=q2.lens.2.2.1
      simp only at htn
      rw [q1,Option.bind_some]
      show ∃ w,cond (decide (kn≠5)) _ _ = some w∧_
      by_cases c2:kn≠5
      · rw [cdp c2]; exact bad 6 (by decide)
      rw [cdn c2]
      obtain ⟨g,g1,_⟩:=simple_at (s:=tn) (by omega) K (by omega)
      show ∃ w,Option.bind (f339 K tn) _ = some w∧_
      rw [g1,Option.bind_some]
      cases g with
      | false=>exact bad 6 (by decide)
      | true =>
      obtain ⟨w0,p1,p2⟩:=same_l xs fs i m e (bn,kn,tn,ln,kkn) ⟨h0i,hi⟩ (by omega) (by omega) fs.length K 0 (by omega) (by omega) (by omega)
      show ∃ w,Option.bind (f366_l117 i xs.length xs fs (bn,kn,tn,ln,kkn) m e K 0) _ = some w∧_
      rw [p1,Option.bind_some]
      rcases p2.symm with ⟨e',rfl,he'⟩ | rfl
      · exact ⟨_,rfl,e',xs,hI,Nat.le_refl _,fun _=>he',.inr rfl⟩
      show ∃ w,f366_j170 (f366_l39 (b,x,y,v.fL,z) m i rc sp K) K m xs i xs.length e u rc sp fs (bn,kn,tn,ln,kkn) k = some w∧_
      unfold f366_j170
      obtain ⟨la,ea,a1,a2,a3⟩:=ali_at K xs xs.length xs.length e e2 (by omega) [] (by simp) true (by omega)
      obtain ⟨bt,kt,tt,lt,kkt,t1,t2,t3,t4⟩:=get_at [116,121,112,101] K e2 (by omega) (by omega)
      rw [gdp (by omega),a1,Option.bind_some,t1,Option.bind_some]
      have j204:∀ e4:Int,(ea≠0→e4≠0)→(e4 = 0→bt = true)→∃ w,f366_j204 (f366_l39 (b,x,y,v.fL,z) m i rc sp K) K m xs i rc xs.length (bt,kt,tt,lt,kkt) sp u fs (bn,kn,tn,ln,kkn) (la,ea) k e4 = some w∧FdT xs e w:=by
        intro e4 h4 h5
        unfold f366_j204
        obtain ⟨r5,e5,xs5,w1,w2,w3,w4,w5⟩:=hrc xs xs.length e4 ⟨kt,tt,lt,kkt⟩ sp hI (Nat.le_refl _) (fun he=>⟨(t4 (h5 he)).1.mono (by omega),by omega⟩) hsp
        have hee:e≠0→e5≠0:=fun h=>w4 (h4 (a3 h))
        show ∃ w,gd (m≤xs.length∧i.toNat < xs.length) (Option.bind (rc xs xs.length xs.length e4 ⟨kt,tt,lt,kkt⟩ sp) _) = some w∧_
        rw [gdp (by omega),w1,Option.bind_some]
        obtain ⟨bd,kd,td,ld,kkd,d1,d2,d3,d4⟩:=get_at [100,101,102,97,117,108,116] K e2 (by omega) (by omega)
        rw [d1,Option.bind_some]
        have j239:∀ (hd:Bool) (df:List UInt8),∃ w,f366_j239 (f366_l39 (b,x,y,v.fL,z) m i rc sp K) K (r5,xs5.length,e5,xs5) i fs (bn,kn,tn,ln,kkn) (la,ea) m k hd df = some w∧FdT xs e w:=by
          intro hd df
          unfold f366_j239
          show ∃ w,cond (decide (e5≠0)) (some (.r (xs5.length,e5,xs5))) (gd (0≤i∧i < ((xs5.length:Nat):Int)) (gd (i.toNat < xs5.length) (gd ((fs.length + ([TField.mk tn la r5 hd df]:List TField).length) * 2 * 72≤281474976710656) (gd (0≤i∧i < ((xs5.length:Nat):Int)) (gd (m≤i.toNat∧i.toNat < xs5.length) (f366_l39 (b,x,y,v.fL,z) m i rc sp K (IntKind.i64.wrap (k + 1)) xs5.length e5 (setAt xs5 i.toNat (fun w_=>{ w_ with fFields:=fs ++ [TField.mk tn la r5 hd df] })) (fs ++ [TField.mk tn la r5 hd df]))))))) = some w∧_
          by_cases c5:e5≠0
          · rw [cdp c5]
            exact ⟨_,rfl,e5,xs5,w2,w3,hee,.inr rfl⟩
          · rw [cdn c5]
            have he5:e5 = 0:=by
              by_cases h:e5 = 0
              · exact h
              · exact absurd h c5
            obtain ⟨v1,v2⟩:=w5 he5
            have hi5:i.toNat < xs5.length:=by omega
            have hfs5:∀ f∈fs ++ [TField.mk tn la r5 hd df],(0≤f.fType∧f.fType < ((xs5.length:Nat):Int))∧f.fAliases.length≤1000000:=by
              intro f hf
              rcases List.mem_append.1 hf with hf | hf
              · obtain ⟨u1,u2⟩:=hfs f hf
                exact ⟨by omega,u2⟩
              · rw [List.mem_singleton.1 hf]
                exact ⟨⟨v1,v2⟩,by show la.length≤_; omega⟩
            have hI6:Inv (setAt xs5 i.toNat (fun w_=>{ w_ with fFields:=fs ++ [TField.mk tn la r5 hd df] })):=w2.set hi5 (fun ok=>⟨ok.kind,ok.items,ok.brs,hfs5,⟨ok.lens.1,by simp; omega,ok.lens.2.2⟩⟩)
            rw [gdp (by omega),gdp (by omega),gdp (by simp; omega),gdp (by omega),gdp (by omega),i64w (by omega)]
            have:=ih K (k + 1) (setAt xs5 i.toNat (fun w_=>{ w_ with fFields:=fs ++ [TField.mk tn la r5 hd df] })) e5 (fs ++ [TField.mk tn la r5 hd df]) (by omega) (by omega) (by omega) (by omega) hI6 (by rw [setAt_len]; exact hi5) (by simp; omega) (by rw [setAt_len]; exact hfs5)
            rw [setAt_len] at this
            obtain ⟨w,z1,e7,xs7,z2,z3,z4,z5⟩:=this
            rw [setAt_len] at z3
            exact ⟨w,z1,e7,xs7,z2,by omega,fun h=>absurd he5 (hee h),z5⟩
        cases bd with
        | false=>exact j239 false []
        | true =>
          obtain ⟨pt,pr,_⟩:=print_at K d2 (by omega) (by omega)
          show ∃ w,Option.bind (f354 K ⟨kd,td,ld,kkd⟩) _ = some w∧_
          rw [pr,Option.bind_some]
          exact j239 true pt
      cases bt with
      | false =>
        show ∃ w,gd (m≤xs.length∧i.toNat < xs.length) (Option.bind (f362 K xs xs.length xs.length ea 9) _) = some w∧_
        rw [gdp (by omega),failB,Option.bind_some]
        exact j204 _ (fun _=>if_ne (by decide)) (fun h=>absurd h (if_ne (by decide)))
      | true=>exact j204 ea (fun h=>h) (fun _=>rfl)
    · exact ⟨.b0 (xs.length,e,xs,fs),by rw [f366_l39]; exact cdn c,e,xs,hI,Nat.le_refl _,fun h=>h,.inl ⟨fs,rfl⟩⟩
theorem fds_b {h:Nat} {j:TJson} (hh:h≤100) (rc:Y357) (hrc:RcB h rc) (K:Nat) (xs:List TNode) (m:Nat) (e i:Int) (sp:List UInt8) (hI:Inv xs) (hi:0≤i∧m≤i.toNat∧i.toNat < xs.length) (h0:(List.getD xs i.toNat default).fFields.length = 0) (hj:TJ (h + 1) j) (hb:jbk j≤200000) (hsp:sp.length≤1000000) (hK:6000000≤K) :
    ∃ e' xs',f366 rc K xs m xs.length e i j sp = some (xs'.length,e',xs')∧Inv xs'∧xs.length≤xs'.length∧(e≠0→e'≠0):=by
  unfold f366
  rw [gdp ⟨hi.2,h0⟩]
  obtain ⟨b,k,t,l,ks,q1,q2,q3,q4⟩:=get_at [102,105,101,108,100,115] K hj (by omega) (by omega)
  rw [q1,Option.bind_some]
  have bad:∃ e' xs',gd (m≤xs.length∧i.toNat < xs.length) ((f362 K xs xs.length xs.length e 9).bind fun r32=>(some (xs.length,r32,xs):Option (Nat×Int×List TNode))) = some (xs'.length,e',xs')∧Inv xs'∧xs.length≤xs'.length∧(e≠0→e'≠0):=by
    rw [gdp (by omega),failB,Option.bind_some]
    exact ⟨_,xs,rfl,hI,Nat.le_refl _,fun _=>if_ne (by decide)⟩
  cases b with
  | false=>exact bad
  | true =>
    show ∃ (e':Int) (xs':List TNode),cond (decide (k≠6)) _ (Option.bind (f366_l39 (true,k,t,l,ks) m i rc sp K 0 xs.length e xs []) _) = some (xs'.length,e',xs')∧_
    by_cases c1:k≠6
    · rw [cdp c1]; exact bad
    rw [cdn c1]
    have hll:=q2.lens.1
    simp only at hll
    obtain ⟨w,h1,e',xs',h2,h3,h4,h5⟩:=fds_l (v:=⟨k,t,l,ks⟩) hh rc hrc q2 (by omega) true k t ks m i sp hsp hi.1 hi.2.1 l.length K 0 xs e [] (by simp) (by omega) (by simp) (by omega) hI hi.2.2 rfl (fun f hf=>by cases hf)
    rw [h1,Option.bind_some]
    rcases h5 with ⟨fs,rfl⟩ | rfl
    · exact ⟨e',xs',rfl,h2,h3,h4⟩
    · exact ⟨e',xs',rfl,h2,h3,h4⟩
theorem size_l (r:Bool×Int×List UInt8×List (RT 4)×List (List UInt8)) (hr:r.2.2.1.length≤1000000):∀ (q K:Nat) (x y:Int),((r.2.2.1.length:Nat):Int) - y≤(q:Int)→0≤y→q + 1≤K→∃ z,f361_l247 r K x y = some (.b0 z):=by
  intro q
  induction q with
  | zero =>
    intro K x y hq h0 hK
    obtain ⟨K,rfl⟩:∃ j,K = j + 1:=⟨K - 1,by omega⟩
    exact ⟨x,by rw [f361_l247,cdn (by omega)]⟩
  | succ q ih =>
    intro K x y hq h0 hK
    obtain ⟨K,rfl⟩:∃ j,K = j + 1:=⟨K - 1,by omega⟩
    rw [f361_l247]
    by_cases c:y < ((r.2.2.1.length:Nat):Int)
    · rw [cdp c]
      by_cases c2:x≤1000
      · rw [cdp c2,gdp (by omega),i64w (n:=y + 1) (by omega)]
        exact ih K _ (y + 1) (by omega) (by omega) (by omega)
      · rw [cdn c2]; exact ⟨x,rfl⟩
    · rw [cdn c]; exact ⟨x,rfl⟩
theorem def_b {h:Nat} {j:TJson} (hh:h≤100) (rc:Y357) (hrc:RcB h rc) (K:Nat) (xs:List TNode) (m:Nat) (e k:Int) (sp:List UInt8) (hI:Inv xs) (hm:m≤xs.length) (hk:1≤k∧k≤14) (hj:TJ (h + 1) j) (hb:jbk j≤200000) (hsp:sp.length≤1000000) (hK:6000000≤K) :
    OneT xs e (f361 rc K xs m xs.length e k j sp):=by
  unfold f361
  obtain ⟨r,e1,xs1,g1,g2,g3,g4,g5⟩:=node_at K xs m e k hI hm hk
  rw [g1,Option.bind_some]
  show OneT xs e (cond (decide (e1≠0)) (some (0,xs1.length,e1,xs1)) _)
  by_cases c0:e1≠0
  · rw [cdp c0]
    exact ⟨0,e1,xs1,rfl,g2,g3,fun _=>c0,fun h=>absurd h c0⟩
  rw [cdn c0]
  have he1:e1 = 0:=by
    by_cases h:e1 = 0
    · exact h
    · exact absurd h c0
  obtain ⟨v1,v2⟩:=g5 he1
  have he0:¬ e≠0:=fun h=>g4 h he1
  have hlen:xs1.length = xs.length + 1:=by rw [v2]; simp
  have hr:r.toNat = xs.length:=by omega
  obtain ⟨bn,kn,tn,ln,kkn,q1,q2,q3,q4⟩:=get_at [110,97,109,101] K hj (by omega) (by omega)
  have htn:=q2.lens.2.2.1
  simp only at htn
  obtain ⟨bs,ks,ts,ls,kks,s1,s2,s3,s4⟩:=get_at [110,97,109,101,115,112,97,99,101] K hj (by omega) (by omega)
  have hts:=s2.lens.2.2.1
  simp only at hts
  rw [q1,Option.bind_some,s1,Option.bind_some]
  have bad:∀ x:Int,x≠0→OneT xs e ((f362 K xs1 m xs1.length e1 x).bind fun r71=>some ((0:Int),xs1.length,r71,xs1)):=by
    intro x hx
    rw [failB,Option.bind_some]
    exact ⟨0,_,xs1,rfl,g2,g3,fun _=>if_ne hx,fun h=>absurd h (if_ne hx)⟩
  have j117:∀ (t:List UInt8) (g b:Bool),t.length≤100→OneT xs e (f361_j117 K (r,xs1.length,e1,xs1) m (t,g) j k rc b):=by
    intro t g b ht
    unfold f361_j117
    cases b with
    | true=>exact bad 6 (by decide)
    | false =>
      obtain ⟨d,d1,d2,d3⟩:=def_at K xs1 m e1 t g2.len (by omega)
      show OneT xs e (Option.bind (f364 K xs1 m xs1.length e1 t) _)
      rw [d1,Option.bind_some]
      by_cases c1:d ≥ 0
      · rw [cdp c1]; exact bad 7 (by decide)
      rw [cdn c1]
      obtain ⟨sp1,p1,p2⟩:=space_at (s:=t) (by omega) K (by omega)
      show OneT xs e (Option.bind (f343 K t) _)
      rw [p1,Option.bind_some]
      obtain ⟨la,ea,a1,a2,a3⟩:=ali_at K xs1 m xs1.length e1 hj hb sp1 (by omega) false (by omega)
      show OneT xs e (Option.bind (f365 K xs1 m xs1.length e1 j sp1 false) _)
      rw [a1,Option.bind_some]
      show OneT xs e (cond (decide (ea≠0)) (some (0,xs1.length,ea,xs1)) _)
      by_cases c2:ea≠0
      · rw [cdp c2]
        exact ⟨0,ea,xs1,rfl,g2,g3,fun _=>c2,fun h=>absurd h c2⟩
      rw [cdn c2]
      have hr1:r.toNat < xs1.length:=by omega
      obtain ⟨xs2,hx2⟩:∃ xs2,xs2 = setAt (setAt xs1 r.toNat (fun w_=>{ w_ with fName:=t })) r.toNat (fun w_=>{ w_ with fAliases:=la }):=⟨_,rfl⟩
      have l2:xs2.length = xs1.length:=by rw [hx2,setAt_len,setAt_len]
      have i1:Inv (setAt xs1 r.toNat (fun w_=>{ w_ with fName:=t })):=g2.set hr1 (fun ok=>⟨ok.kind,ok.items,ok.brs,ok.fds,⟨ok.lens.1,ok.lens.2.1,ok.lens.2.2.1,ok.lens.2.2.2.1,by show t.length≤_; omega⟩⟩)
      have i2:Inv xs2:=by
        rw [hx2]
        exact i1.set (by rw [setAt_len]; exact hr1) (fun ok=>⟨ok.kind,ok.items,ok.brs,ok.fds,⟨ok.lens.1,ok.lens.2.1,ok.lens.2.2.1,(by show la.length≤_; omega),ok.lens.2.2.2.2⟩⟩)
      have f0:(List.getD xs2 r.toNat default).fFields.length = 0:=by
        rw [hx2,setAt_get _ (by rw [setAt_len]; exact hr1),setAt_get _ hr1]
        show (List.getD xs1 r.toNat default).fFields.length = 0
        rw [v2,hr]
        simp [newN]
      show OneT xs e (gd (0≤r∧r < ((xs1.length:Nat):Int)) (gd (m≤r.toNat∧r.toNat < xs1.length) (gd (0≤r∧r < ((xs1.length:Nat):Int)) (gd (m≤r.toNat∧r.toNat < (setAt xs1 r.toNat (fun w_=>{ w_ with fName:=t })).length) (cond (decide (k = 9)) ((some sp1).bind fun r213=>(f366 rc K (setAt (setAt xs1 r.toNat (fun w_=>{ w_ with fName:=t })) r.toNat (fun w_=>{ w_ with fAliases:=la })) m xs1.length ea r j r213).bind fun r214=>some (r,r214.1,r214.2.1,r214.2.2)) (cond (decide (k = 10)) ((f367 K (setAt (setAt xs1 r.toNat (fun w_=>{ w_ with fName:=t })) r.toNat (fun w_=>{ w_ with fAliases:=la })) m xs1.length ea r j).bind fun r226=>some (r,xs1.length,r226.1,r226.2)) ((f346 K j [115,105,122,101]).bind fun r231=>(f361_l247 r231 K 0 0).bind fun o247=>(match o247 with | .b0 x247_1=>f361_j284 K r231 (r,xs1.length,e1,xs1) (t,g) (la,ea) m x247_1 | _=>none))))))))
      rw [gdp (by omega),gdp (by omega),gdp (by omega),gdp (by rw [setAt_len]; omega)]
      rw [←hx2]
      by_cases c3:k = 9
      · rw [cdp c3,Option.bind_some,←l2]
        obtain ⟨e3,xs3,w1,w2,w3,w4⟩:=fds_b hh rc hrc K xs2 m ea r sp1 i2 (by omega) f0 hj hb (by omega) (by omega)
        rw [w1,Option.bind_some]
        exact ⟨r,e3,xs3,rfl,w2,by omega,fun h=>absurd h he0,fun _=>by omega⟩
      rw [cdn c3]
      by_cases c4:k = 10
      · rw [cdp c4,←l2]
        obtain ⟨e3,xs3,w1,w2,w3,w4⟩:=sym_b K xs2 m ea r i2 (by omega) hj hb (by omega)
        rw [w1,Option.bind_some]
        exact ⟨r,e3,xs3,by show some (r,xs2.length,e3,xs3) = _; rw [w3],w2,by omega,fun h=>absurd h he0,fun _=>by omega⟩
      rw [cdn c4]
      obtain ⟨bz,kz,tz,lz,kkz,z1,z2,z3,z4⟩:=get_at [115,105,122,101] K hj (by omega) (by omega)
      have htz:=z2.lens.2.2.1
      simp only at htz
      rw [z1,Option.bind_some]
      obtain ⟨x,y1⟩:=size_l (bz,kz,tz,lz,kkz) (by simp only; omega) tz.length K 0 0 (by simp) (by omega) (by omega)
      rw [y1,Option.bind_some]
      show OneT xs e (f361_j284 K (bz,kz,tz,lz,kkz) (r,xs1.length,e1,xs1) (t,g) (la,ea) m x)
      have j311:∀ e3:Int,OneT xs e (f361_j311 K (r,xs1.length,e1,xs1) m (t,g) (la,ea) x e3):=by
        intro e3
        unfold f361_j311
        show OneT xs e (gd (0≤r∧r < ((xs1.length:Nat):Int)) (gd (m≤r.toNat∧r.toNat < (setAt (setAt xs1 r.toNat (fun w_=>{ w_ with fName:=t })) r.toNat (fun w_=>{ w_ with fAliases:=la })).length) (some (r,xs1.length,e3,(setAt (setAt (setAt xs1 r.toNat (fun w_=>{ w_ with fName:=t })) r.toNat (fun w_=>{ w_ with fAliases:=la })) r.toNat (fun w_=>{ w_ with fSize:=x }))))))
        rw [←hx2,gdp (by omega),gdp (by omega)]
        refine ⟨r,e3,setAt xs2 r.toNat (fun w_=>{ w_ with fSize:=x }),by rw [setAt_len,l2],i2.set (by omega) (fun ok=>⟨ok.kind,ok.items,ok.brs,ok.fds,ok.lens⟩),by rw [setAt_len]; omega,fun h=>absurd h he0,fun _=>?_⟩
        rw [setAt_len]
        omega
      have j9:OneT xs e ((f362 K (setAt (setAt xs1 r.toNat (fun w_=>{ w_ with fName:=t })) r.toNat (fun w_=>{ w_ with fAliases:=la })) m xs1.length ea 9).bind fun r309=>f361_j311 K (r,xs1.length,e1,xs1) m (t,g) (la,ea) x r309):=by
        rw [failB,Option.bind_some]; exact j311 _
      unfold f361_j284
      cases bz with
      | false=>exact j9
      | true =>
        show OneT xs e (cond (decide (kz≠4)) _ (gd (0≤(0:Int)∧(0:Int) < ((tz.length:Nat):Int)) _))
        by_cases c5:kz≠4
        · rw [cdp c5]; exact j9
        rw [cdn c5]
        have hz4:kz = 4:=by
          by_cases h:kz = 4
          · exact h
          · exact absurd h c5
        have hne:tz≠[]:=z2.1 hz4
        have:=List.length_pos_iff.2 hne
        rw [gdp (by omega)]
        show OneT xs e (cond (decide ((((tz.getD ((0:Int)).toNat 0).toNat:Nat):Int) = (45:Int))) _ (cond (decide (x > 1000)) _ _))
        cases decide ((((tz.getD ((0:Int)).toNat 0).toNat:Nat):Int) = (45:Int)) with
        | true=>exact j9
        | false =>
          rw [cond_false]
          cases decide (x > 1000) with
          | true=>exact j9
          | false=>exact j311 _
  have j90:∀ sp':List UInt8,sp'.length≤1000000→OneT xs e (f361_j90 K (bn,kn,tn,ln,kkn) (r,xs1.length,e1,xs1) m j k rc sp'):=by
    intro sp' hsp'
    unfold f361_j90
    obtain ⟨t,g,m1,m2⟩:=make_at K tn sp' (by omega) hsp' (by omega)
    show OneT xs e (Option.bind (f338 K tn sp') _)
    rw [m1,Option.bind_some]
    cases g with
    | false=>exact j117 t false true m2
    | true =>
      show OneT xs e (cond (decide (sp'≠[])) _ _)
      by_cases c1:sp'≠[]
      · rw [cdp c1]
        obtain ⟨b,f1,_⟩:=full_at (s:=sp') (by omega) K (by omega)
        rw [f1,Option.bind_some]
        exact j117 t true _ m2
      · rw [cdn c1]; exact j117 t true false m2
  have j66:∀ b,OneT xs e (f361_j66 K (r,xs1.length,e1,xs1) m (bs,ks,ts,ls,kks) (bn,kn,tn,ln,kkn) j k rc sp b):=by
    intro b
    unfold f361_j66
    cases b with
    | true=>exact bad 6 (by decide)
    | false =>
      cases bs with
      | true=>exact j90 ts (by omega)
      | false=>exact j90 sp hsp
  show OneT xs e (cond (decide (kn≠5)) _ (cond bs _ _))
  by_cases c1:kn≠5
  · rw [cdp c1]; exact j66 true
  · rw [cdn c1]
    cases bs with
    | true=>exact j66 _
    | false=>exact j66 false
theorem one_s {h:Nat} (hh:h≤100) (rc:Y357) (hrc:RcB h rc) (K:Nat) (hK:6000000≤K):RcB (h + 1) (fun a0 a1 a2 a3 a4 a5=>f357_s rc K a0 a1 a2 a3 a4 a5):=by
  intro xs m e j sp hI hm hj hsp
  show OneT xs e (f357_s rc K xs m xs.length e j sp)
  unfold f357_s
  by_cases c0:e≠0
  · rw [cdp c0]
    exact ⟨0,e,xs,rfl,hI,Nat.le_refl _,fun _=>c0,fun h=>absurd h c0⟩
  rw [cdn c0]
  have he:e = 0:=by
    by_cases h:e = 0
    · exact h
    · exact absurd h c0
  obtain ⟨hj,hb⟩:=hj he
  have htj:=hj.lens.2.2.1
  have same:∀ {o:Option (Int×Nat×Int×(List TNode))},OneT xs e o→OneT xs e (o.bind fun r=>some (r.1,r.2.1,r.2.2.1,r.2.2.2)):=by
    intro o ho
    obtain ⟨r,e',xs',rfl,h2⟩:=ho
    exact ⟨r,e',xs',rfl,h2⟩
  have j220:OneT xs e (f357_j220 K xs m xs.length e):=by
    unfold f357_j220
    rw [failB,Option.bind_some]
    exact ⟨0,_,xs,rfl,hI,Nat.le_refl _,fun _=>if_ne (by decide),fun h=>absurd h (if_ne (by decide))⟩
  by_cases c1:j.fKind = 5
  · rw [cdp c1]
    exact same (named_at K xs m e j.fText sp hI hm (by omega) hsp (by omega))
  rw [cdn c1]
  by_cases c2:j.fKind = 6
  · rw [cdp c2]
    exact same (union_b rc hrc K xs m e sp hI hm hj hb hsp (by omega))
  rw [cdn c2]
  by_cases c3:j.fKind = 7
  · rw [cdp c3]
    obtain ⟨b,k,t,l,ks,q1,q2,q3,q4⟩:=get_at [116,121,112,101] K hj (by omega) (by omega)
    have ht:=q2.lens.2.2.1
    simp only at ht
    rw [q1,Option.bind_some]
    cases b with
    | false=>exact j220
    | true =>
      have j168:∀ b,OneT xs e (f357_j168 K rc xs m xs.length e j sp (true,k,t,l,ks) b):=by
        intro b
        unfold f357_j168
        cases b with
        | true=>exact same (def_b hh rc hrc K xs m e 9 sp hI hm (by omega) hj hb hsp (by omega))
        | false =>
          rw [cond_false]
          cases decide (t = ([101,110,117,109]:List UInt8)) with
          | true=>exact same (def_b hh rc hrc K xs m e 10 sp hI hm (by omega) hj hb hsp (by omega))
          | false =>
            rw [cond_false]
            cases decide (t = ([102,105,120,101,100]:List UInt8)) with
            | true=>exact same (def_b hh rc hrc K xs m e 14 sp hI hm (by omega) hj hb hsp (by omega))
            | false=>exact same (named_at K xs m e t sp hI hm (by omega) hsp (by omega))
      have j98:∀ b,OneT xs e (f357_j98 K rc xs m xs.length e (true,k,t,l,ks) sp j b):=by
        intro b
        unfold f357_j98
        cases b with
        | true=>exact same (hrc xs m e ⟨k,t,l,ks⟩ sp hI hm (fun _=>⟨(q4 rfl).1,by omega⟩) hsp)
        | false =>
          show OneT xs e (cond (decide (k≠5)) _ (cond (decide (t = ([97,114,114,97,121]:List UInt8))) _ (cond (decide (t = ([109,97,112]:List UInt8))) _ (cond (decide (t = ([114,101,99,111,114,100]:List UInt8))) _ _))))
          cases decide (k≠5) with
          | true=>exact j220
          | false =>
          rw [cond_false]
          cases decide (t = ([97,114,114,97,121]:List UInt8)) with
          | true=>exact same (many_b rc hrc K xs m e 11 _ sp hI hm (by omega) hj hb hsp (by omega))
          | false =>
          rw [cond_false]
          cases decide (t = ([109,97,112]:List UInt8)) with
          | true=>exact same (many_b rc hrc K xs m e 12 _ sp hI hm (by omega) hj hb hsp (by omega))
          | false =>
          rw [cond_false]
          cases decide (t = ([114,101,99,111,114,100]:List UInt8)) with
          | true=>rw [cond_true]; exact j168 _
          | false=>rw [cond_false]; exact j168 _
      show OneT xs e (cond (decide (k = 6)) _ _)
      cases decide (k = 6) with
      | true=>exact j98 true
      | false=>rw [cond_false]; exact j98 _
  · rw [cdn c3]; exact j220
theorem one_at:∀ (h:Nat) (K:Nat),h≤101→h + 6000001≤K→RcB h (f357 K)
  | 0,K,_,hK=>by
    obtain ⟨K,rfl⟩:∃ i,K = i + 1:=⟨K - 1,by omega⟩
    intro xs m e j sp hI hm hj hsp
    rw [f357]
    unfold f357_s
    by_cases c0:e≠0
    · rw [cdp c0]
      exact ⟨0,e,xs,rfl,hI,Nat.le_refl _,fun _=>c0,fun h=>absurd h c0⟩
    · exfalso
      have he:e = 0:=by
        by_cases h:e = 0
        · exact h
        · exact absurd h c0
      exact (hj he).1.elim
  | h + 1,K,hh,hK=>by
    obtain ⟨K,rfl⟩:∃ i,K = i + 1:=⟨K - 1,by omega⟩
    intro xs m e j sp hI hm hj hsp
    rw [f357]
    exact one_s (by omega) (f357 K) (one_at h K (by omega) (by omega)) K (by omega) xs m e j sp hI hm hj hsp
end Go.Proofs.Abs
end
section
namespace Go.Proofs.Abs
open Go
set_option linter.unusedVariables false
set_option maxRecDepth 100000
theorem whole_l (t:List UInt8) (hb:t.length≤1000000):∀ (q K:Nat) (y i:Int),((t.length:Nat):Int) - i≤(q:Int)→0≤i→q + 1≤K→∃ z,f370_l34 t K y i = some (.b0 z):=by
  intro q
  induction q with
  | zero =>
    intro K y i hq h0 hK
    obtain ⟨K,rfl⟩:∃ j,K = j + 1:=⟨K - 1,by omega⟩
    exact ⟨y,by rw [f370_l34,cdn (by omega)]⟩
  | succ q ih =>
    intro K y i hq h0 hK
    obtain ⟨K,rfl⟩:∃ j,K = j + 1:=⟨K - 1,by omega⟩
    rw [f370_l34]
    by_cases c:i < ((t.length:Nat):Int)
    · rw [cdp c,gdp (by omega),i64w (n:=i + 1) (by omega)]
      exact ih K _ (i + 1) (by omega) (by omega) (by omega)
    · rw [cdn c]; exact ⟨y,rfl⟩
theorem whole_at (K:Nat) (t:List UInt8) (hb:t.length≤1000000) (hn:t≠[]) (hK:t.length + 1≤K):∃ x b,f370 K t = some (x,b):=by
  have hp:=List.length_pos_iff.2 hn
  have j65:∀ x,∃ y b,f370_j65 K t x = some (y,b):=by
    intro x
    unfold f370_j65
    cases decide ((((t.getD ((0:Int)).toNat 0).toNat:Nat):Int) = (45:Int))
    · exact ⟨_,_,rfl⟩
    · rw [cond_true]
      cases decide (x > (9223372036854775808:Int))
      · exact ⟨_,_,rfl⟩
      · exact ⟨_,_,rfl⟩
  have j25:∀ u:List UInt8,u.length≤t.length→∃ y b,f370_j25 K t u = some (y,b):=by
    intro u hu
    unfold f370_j25
    obtain ⟨z,h⟩:=whole_l u (by omega) u.length K 0 0 (by omega) (by omega) (by omega)
    rw [h,Option.bind_some]
    exact j65 z
  unfold f370
  rw [gdp (by omega)]
  cases decide ((((t.getD ((0:Int)).toNat 0).toNat:Nat):Int) = (45:Int))
  · exact j25 t (Nat.le_refl _)
  · rw [cond_true,gdp (by omega)]
    have:=sl_len2 t (a:=1) (b:=((t.length:Nat):Int)) (by omega) (by omega) (by omega)
    exact j25 _ (by omega)
def HexT (o:Option (LR2 (Nat×(List UInt8)) Unit ((List UInt8)×Bool))):Prop:=∃ z,o = some z∧((∃ r:List UInt8,r.length≤100∧z = .b0 (r.length,r))∨∃ b,z = .r ([],b))
theorem hex_l (t:List UInt8) (hb:t.length≤16):∀ (q K:Nat) (i:Int) (r:List UInt8),((t.length:Nat):Int) - i≤(q:Int)→0≤i→i≤((t.length:Nat):Int)→(r.length:Int) = (i + 1) / 2→q + 1≤K→HexT (f371_l32 t K r.length i r):=by
  intro q
  induction q with
  | zero =>
    intro K i r hq h0 h1 hr hK
    obtain ⟨K,rfl⟩:∃ j,K = j + 1:=⟨K - 1,by omega⟩
    rw [f371_l32,cdn (by omega)]
    exact ⟨_,rfl,.inl ⟨r,by omega,rfl⟩⟩
  | succ q ih =>
    intro K i r hq h0 h1 hr hK
    obtain ⟨K,rfl⟩:∃ j,K = j + 1:=⟨K - 1,by omega⟩
    rw [f371_l32]
    by_cases c:i < ((t.length:Nat):Int)
    · rw [cdp c,gdp (by omega)]
      have j99:∀ x,HexT (f371_j99 (f371_l32 t K) K i r.length r x):=by
        intro x
        unfold f371_j99
        have e1:Int.tmod i 2 = i % 2:=Int.tmod_eq_emod_of_nonneg h0
        have e2:Int.tdiv i 2 = i / 2:=Int.tdiv_eq_ediv_of_nonneg h0
        rw [e1,e2,i64w (n:=i + 1) (by omega),i64w (n:=i / 2) (by omega),List.take_length]
        by_cases c2:i % 2 = 0
        · rw [cdp c2,gdp (by simp only [List.length_singleton]; omega)]
          have:=ih K (i + 1) (r ++ [(u8 (IntKind.u8.wrap (((x.toNat:Nat):Int) * 2 ^ (min ((4:Int)).toNat IntKind.u8.bits))))]) (by omega) (by omega) (by omega) (by rw [List.length_append,List.length_singleton]; omega) (by omega)
          rwa [List.length_append] at this
        · rw [cdn c2,gdp (by omega),gdp (by omega),gdp (by omega),gdp (by omega)]
          have:=ih K (i + 1) (List.set r (i / 2).toNat (u8 (bitsA .or .u8 (((List.getD r (i / 2).toNat default).toNat:Nat):Int) ((x.toNat:Nat):Int)))) (by omega) (by omega) (by omega) (by rw [List.length_set]; omega) (by omega)
          rwa [List.length_set] at this
      have j86:∀ b,HexT (f371_j86 (f371_l32 t K) K i r.length r t b):=by
        intro b
        unfold f371_j86
        cases b with
        | true=>exact j99 _
        | false=>exact ⟨_,rfl,.inr ⟨_,rfl⟩⟩
      have j70:∀ b,HexT (f371_j70 (f371_l32 t K) K i r.length r t b):=by
        intro b
        unfold f371_j70
        cases b with
        | true=>exact j99 _
        | false =>
          rw [cond_false]
          cases decide ((((t.getD i.toNat 0).toNat:Nat):Int) ≥ (97:Int))
          · exact j86 false
          · rw [cond_true]; exact j86 _
      cases decide ((((t.getD i.toNat 0).toNat:Nat):Int) ≥ (48:Int))
      · exact j70 false
      · rw [cond_true]; exact j70 _
    · rw [cdn c]
      exact ⟨_,rfl,.inl ⟨r,by omega,rfl⟩⟩
theorem hex_at (K:Nat) (t:List UInt8) (n:Int) (hn:n = 4∨n = 8) (hK:20≤K):∃ r b,f371 K t n = some (r,b):=by
  unfold f371
  by_cases c:((t.length:Nat):Int)≠IntKind.i64.wrap ((2:Int) * n)
  · rw [cdp c]; exact ⟨_,_,rfl⟩
  rw [cdn c]
  have hl:t.length≤16:=by
    have:((t.length:Nat):Int) = IntKind.i64.wrap ((2:Int) * n):=Classical.byContradiction fun h=>c h
    rw [i64w (by omega)] at this
    omega
  obtain ⟨z,h1,h2⟩:=hex_l t hl t.length K 0 [] (by omega) (by omega) (by omega) (by simp) (by omega)
  rw [show (([]:List UInt8).length) = 0 from rfl] at h1
  rw [h1,Option.bind_some]
  rcases h2 with ⟨r,_,rfl⟩ | ⟨b,rfl⟩
  · show ∃ r' b,f371_j133 K r.length r = some (r',b)
    unfold f371_j133
    rw [gdp (Nat.le_refl _)]
    exact ⟨_,_,rfl⟩
  · exact ⟨_,_,rfl⟩
theorem signs_l (t:List UInt8) (hb:t.length≤1000000):∀ (q K:Nat) (y:List UInt8) (i:Int),((t.length:Nat):Int) - i≤(q:Int)→0≤i→i≤((t.length:Nat):Int)→(y.length:Int)≤i→q + 1≤K→∃ z,f372_l15 t K y i = some z∧((∃ w,z = .b0 w)∨∃ w,z = .r w):=by
  intro q
  induction q with
  | zero =>
    intro K y i hq h0 h1 hy hK
    obtain ⟨K,rfl⟩:∃ j,K = j + 1:=⟨K - 1,by omega⟩
    exact ⟨.b0 y,by rw [f372_l15,cdn (by omega)],.inl ⟨_,rfl⟩⟩
  | succ q ih =>
    intro K y i hq h0 h1 hy hK
    obtain ⟨K,rfl⟩:∃ j,K = j + 1:=⟨K - 1,by omega⟩
    rw [f372_l15]
    by_cases c:i < ((t.length:Nat):Int)
    · rw [cdp c,gdp (by omega)]
      have hs:=sl_len2 t (a:=i) (b:=((t.length:Nat):Int)) h0 h1 (by omega)
      obtain ⟨ch,u,hcu⟩:∃ ch u,Abs.sl t i ((t.length:Nat):Int) = ch :: u:=by
        cases hx:Abs.sl t i ((t.length:Nat):Int) with
        | nil=>rw [hx] at hs; simp at hs; omega
        | cons ch u=>exact ⟨ch,u,rfl⟩
      obtain ⟨r,w,h2,h3,h4⟩:=dec_any ch u
      rw [hcu] at hs ⊢
      unfold f336
      rw [h2,Option.bind_some]
      show ∃ z,cond (decide ((r:Int) > 255)) _ _ = some z∧_
      cases decide ((r:Int) > 255)
      · rw [cond_false]
        show ∃ z,cond (decide ((r:Int) = 65533)) _ _ = some z∧_
        cases decide ((r:Int) = 65533)
        · rw [cond_false,gdp (by simp only [List.length_singleton]; omega)]
          show ∃ z,f372_l15 t K (y ++ [(u8 (IntKind.u8.wrap (r:Int)))]) (IntKind.i64.wrap (i + (w:Int))) = some z∧_
          rw [i64w (by omega)]
          exact ih K _ (i + w) (by omega) (by omega) (by omega) (by rw [List.length_append,List.length_singleton]; omega) (by omega)
        · exact ⟨_,rfl,.inr ⟨_,rfl⟩⟩
      · exact ⟨_,rfl,.inr ⟨_,rfl⟩⟩
    · rw [cdn c]; exact ⟨.b0 y,rfl,.inl ⟨_,rfl⟩⟩
theorem signs_at (K:Nat) (t:List UInt8) (hb:t.length≤1000000) (hK:t.length + 1≤K):∃ r b,f372 K t = some (r,b):=by
  unfold f372
  obtain ⟨z,h1,h2⟩:=signs_l t hb t.length K [] 0 (by omega) (by omega) (by omega) (by simp) hK
  rw [h1,Option.bind_some]
  rcases h2 with ⟨w,rfl⟩ | ⟨w,rfl⟩
  · exact ⟨_,_,rfl⟩
  · exact ⟨w.1,w.2,rfl⟩
end Go.Proofs.Abs
end
section
namespace Go.Proofs.Abs
open Go
set_option linter.unusedVariables false
set_option maxRecDepth 100000
theorem tc {α:Type} {b:Bool} {x y:Option α} (hx:∃ r,x = some r) (hy:∃ r,y = some r):∃ r,cond b x y = some r:=by cases b <;> assumption
theorem tk {α:Type} {p:Prop} {d:Decidable p} {x y:Option α} (hx:p→∃ r,x = some r) (hy:¬ p→∃ r,y = some r):∃ r,cond (@decide p d) x y = some r:=by
  by_cases h:p
  · rw [cdp h]; exact hx h
  · rw [cdn h]; exact hy h
def RcV (a0:List TNode) (rc:Y369) (d:Int):Prop:=∀ c i j,TJ 65 j→jbk j≤1000000→∃ r,rc a0 c i j d = some r
theorem known_l (fs:TNode) (js:TJson) (i:Int) (hi:0≤i∧i < ((js.fKeys.length:Nat):Int)) (hf:fs.fFields.length≤1000000):∀ (q K:Nat) (b:Bool) (n:Int),((fs.fFields.length:Nat):Int) - n≤(q:Int)→0≤n→q + 1≤K→∃ z,f373_l42 fs i js K b n = some (.b0 z):=by
  intro q
  induction q with
  | zero =>
    intro K b n hq h0 hK
    obtain ⟨K,rfl⟩:∃ j,K = j + 1:=⟨K - 1,by omega⟩
    exact ⟨b,by rw [f373_l42,cdn (by omega)]⟩
  | succ q ih =>
    intro K b n hq h0 hK
    obtain ⟨K,rfl⟩:∃ j,K = j + 1:=⟨K - 1,by omega⟩
    rw [f373_l42]
    by_cases c:n < ((fs.fFields.length:Nat):Int)
    · rw [cdp c,gdp (by omega),gdp hi,i64w (n:=n + 1) (by omega)]
      cases b with
      | true=>exact ih K _ (n + 1) (by omega) (by omega) (by omega)
      | false=>exact ih K _ (n + 1) (by omega) (by omega) (by omega)
    · rw [cdn c]; exact ⟨b,rfl⟩
theorem knowns_l (fs:TNode) (js:TJson) (hj:js.fKeys.length≤1000000) (hf:fs.fFields.length≤1000000):∀ (q K:Nat) (b:Bool) (n:Int),((js.fKeys.length:Nat):Int) - n≤(q:Int)→0≤n→q + 1000010≤K→∃ z,f373_l14 js fs K b n = some (.b0 z):=by
  intro q
  induction q with
  | zero =>
    intro K b n hq h0 hK
    obtain ⟨K,rfl⟩:∃ j,K = j + 1:=⟨K - 1,by omega⟩
    exact ⟨b,by rw [f373_l14,cdn (by omega)]⟩
  | succ q ih =>
    intro K b n hq h0 hK
    obtain ⟨K,rfl⟩:∃ j,K = j + 1:=⟨K - 1,by omega⟩
    rw [f373_l14]
    by_cases c:n < ((js.fKeys.length:Nat):Int)
    · rw [cdp c]
      cases b with
      | false=>exact ⟨_,rfl⟩
      | true =>
        obtain ⟨z,h⟩:=known_l fs js n ⟨h0,c⟩ hf fs.fFields.length K false 0 (by omega) (by omega) (by omega)
        rw [cond_true,h,Option.bind_some,i64w (n:=n + 1) (by omega)]
        exact ih K z (n + 1) (by omega) (by omega) (by omega)
    · rw [cdn c]; exact ⟨b,rfl⟩
theorem rec_l (a0:List TNode) (fs:TNode) (js:TJson) (d:Int) (rc:Y369) (hd:0≤d∧d≤64) (hrc:RcV a0 rc (d + 1)) (hj:TJ 65 js) (hb:jbk js≤1000000) (hf:fs.fFields.length≤1000000) :
    ∀ (q K:Nat) (b:Bool) (n c:Int) (L:List (RT 5)),((fs.fFields.length:Nat):Int) - n≤(q:Int)→0≤n→(L.length:Int)≤n→q + 1250000≤K→∃ z,f373_l95 fs js rc a0 d K b n c L = some (.b0 z):=by
  intro q
  induction q with
  | zero =>
    intro K b n c L hq h0 hL hK
    obtain ⟨K,rfl⟩:∃ j,K = j + 1:=⟨K - 1,by omega⟩
    exact ⟨_,by rw [f373_l95,cdn (by omega)]⟩
  | succ q ih =>
    intro K b n c L hq h0 hL hK
    obtain ⟨K,rfl⟩:∃ j,K = j + 1:=⟨K - 1,by omega⟩
    rw [f373_l95]
    by_cases c1:n < ((fs.fFields.length:Nat):Int)
    · rw [cdp c1]
      cases b with
      | false=>exact ⟨_,rfl⟩
      | true =>
        have j169:∀ b k t l ks,TJ 65 ⟨k,t,l,ks⟩→jbk ⟨k,t,l,ks⟩≤1000000→∃ z,f373_j169 (f373_l95 fs js rc a0 d K) K rc a0 c fs n d L b k t l ks = some (.b0 z):=by
          intro b k t l ks h1 h2
          unfold f373_j169
          cases b with
          | true =>
            rw [cond_true,i64w (n:=d + 1) (by omega),i64w (n:=n + 1) (by omega)]
            obtain ⟨r,hr⟩:=hrc c ((rd fs.fFields n).fType) ⟨k,t,l,ks⟩ h1 h2
            rw [hr,Option.bind_some,gdp (by simp only [List.length_singleton]; omega)]
            exact ih K _ (n + 1) _ _ (by omega) (by omega) (by rw [List.length_append,List.length_singleton]; omega) (by omega)
          | false =>
            rw [cond_false,i64w (n:=n + 1) (by omega)]
            exact ih K false (n + 1) c L (by omega) (by omega) (by omega) (by omega)
        obtain ⟨b,k,t,l,ks,g1,g2,g3,_⟩:=get_at ((rd fs.fFields n).fName) K (h:=64) hj hb (by omega)
        rw [cond_true,gdp (by omega),g1,Option.bind_some]
        cases b with
        | true=>exact j169 true k t l ks g2 (by omega)
        | false =>
          obtain ⟨e,k',t',l',ks',p1,p2,p3⟩:=parse_at ((rd fs.fFields n).fDefault) K (by omega)
          show ∃ z:Bool×List (RT 5)×Int,Option.bind (f295 K ((rd fs.fFields n).fDefault)) _ = some (LR2.b0 z)
          rw [p1,Option.bind_some]
          cases (rd fs.fFields n).fHas with
          | true=>exact j169 _ k' t' l' ks' p2 (by omega)
          | false=>exact j169 false k' t' l' ks' p2 (by omega)
    · rw [cdn c1]; exact ⟨_,rfl⟩
theorem rec_at (a0:List TNode) (a1:Int) (fs:TNode) (a3 a4:Int) (js:TJson) (d:Int) (b:Bool) (rc:Y369) (K:Nat) (hd:0≤d∧d≤64) (hrc:RcV a0 rc (d + 1)) (hj:TJ 65 js) (hb:jbk js≤1000000) (hf:fs.fFields.length≤1000000) (hK:3000000≤K) :
    ∃ r,f373 rc K a0 a1 fs a3 a4 js d b = some r:=by
  have:=hj.lens
  unfold f373
  obtain ⟨z,h⟩:=knowns_l fs js (by omega) hf js.fKeys.length K b 0 (by omega) (by omega) (by omega)
  rw [h,Option.bind_some]
  show ∃ r,f373_j90 K fs js rc a0 d a1 z = some r
  unfold f373_j90
  obtain ⟨z2,h2⟩:=rec_l a0 fs js d rc hd hrc hj hb hf fs.fFields.length K z 0 a1 [] (by omega) (by omega) (by simp) (by omega)
  rw [h2,Option.bind_some]
  exact ⟨_,rfl⟩
section
variable {a0:List TNode} {a1 a2 d:Int} {js:TJson} {rc:Y369} {K:Nat}
theorem v543 (b:Bool) (k x:Int) (t:List UInt8) (l:List (RT 5)) (ks:List (List UInt8)) (n:Int):∃ r,f369_j543 K b k x t l ks n = some r:=by
  unfold f369_j543
  exact tc ⟨_,rfl⟩ ⟨_,rfl⟩
theorem v116 (b:Bool):∃ r,f369_j116 K js a0 a2 a1 b = some r:=by
  unfold f369_j116
  exact tc (v543 ..) (v543 ..)
theorem v161 (b:Bool) (x:Int):∃ r,f369_j161 K a0 a2 a1 b x = some r:=by
  unfold f369_j161
  exact tc (tc (v543 ..) (tc (v543 ..) (v543 ..))) (v543 ..)
theorem v263 (b:Bool) (x:List UInt8):∃ r,f369_j263 K a0 a2 a1 b x = some r:=by
  unfold f369_j263
  exact tc (tc (v543 ..) (v543 ..)) (v543 ..)
theorem symv_l (hs:(rd a0 a2).fSymbols.length≤1000000):∀ (q K:Nat) (b:Bool) (n s:Int),(((rd a0 a2).fSymbols.length:Nat):Int) - n≤(q:Int)→0≤n→q + 1≤K→∃ z,f369_l307 a0 a2 js K b n s = some (.b0 z):=by
  intro q
  induction q with
  | zero =>
    intro K b n s hq h0 hK
    obtain ⟨K,rfl⟩:∃ j,K = j + 1:=⟨K - 1,by omega⟩
    exact ⟨_,by rw [f369_l307,cdn (by omega)]⟩
  | succ q ih =>
    intro K b n s hq h0 hK
    obtain ⟨K,rfl⟩:∃ j,K = j + 1:=⟨K - 1,by omega⟩
    rw [f369_l307]
    have j343:∀ b',n < (((rd a0 a2).fSymbols.length:Nat):Int)→∃ z,f369_j343 (f369_l307 a0 a2 js K) K n b s b' = some (.b0 z):=by
      intro b' hn
      unfold f369_j343
      rw [i64w (n:=n + 1) (by omega)]
      cases b' with
      | true=>exact ih K _ (n + 1) _ (by omega) (by omega) (by omega)
      | false=>exact ih K _ (n + 1) _ (by omega) (by omega) (by omega)
    by_cases c:n < (((rd a0 a2).fSymbols.length:Nat):Int)
    · rw [cdp c]
      by_cases c2:js.fKind = 5
      · rw [cdp c2,gdp (by omega)]
        cases decide ((rd ((rd a0 a2).fSymbols) n) = js.fText)
        · exact j343 false c
        · rw [cond_true]; exact j343 _ c
      · rw [cdn c2]; exact j343 _ c
    · rw [cdn c]; exact ⟨_,rfl⟩
theorem items_l (hd:0≤d∧d≤64) (hrc:RcV a0 rc (d + 1)) (hj:TJ 65 js) (hb:jbk js≤1000000) (hq7:(rd a0 a2).fKind = 12→js.fKind = 7) :
    ∀ (q K:Nat) (b:Bool) (n c:Int) (L:List (RT 5)) (ks:List (List UInt8)),((js.fL.length:Nat):Int) - n≤(q:Int)→0≤n→(L.length:Int)≤n→(ks.length:Int)≤n→q + 1≤K→∃ z,f369_l395 js rc a0 a2 d K b n c L ks = some (.b0 z):=by
  have hl:=hj.lens
  intro q
  induction q with
  | zero =>
    intro K b n c L ks hq h0 hL hks hK
    obtain ⟨K,rfl⟩:∃ j,K = j + 1:=⟨K - 1,by omega⟩
    exact ⟨_,by rw [f369_l395,cdn (by omega)]⟩
  | succ q ih =>
    intro K b n c L ks hq h0 hL hks hK
    obtain ⟨K,rfl⟩:∃ j,K = j + 1:=⟨K - 1,by omega⟩
    rw [f369_l395]
    by_cases c1:n < ((js.fL.length:Nat):Int)
    · rw [cdp c1]
      cases b with
      | false=>exact ⟨_,rfl⟩
      | true =>
        obtain ⟨u,e1,e2,e3⟩:=hj.part (h:=64) h0 c1
        obtain ⟨r,hr⟩:=hrc c ((rd a0 a2).fItems) u e2.up (by omega)
        rw [cond_true,gdp (by omega),e1,Option.bind_some,i64w (n:=d + 1) (by omega),hr,Option.bind_some,gdp (by simp only [List.length_singleton]; omega),i64w (n:=n + 1) (by omega)]
        by_cases c2:(rd a0 a2).fKind = 12
        · have hk:=hj.2.1 (hq7 c2)
          rw [cdp c2,gdp (by omega),gdp (by simp only [List.length_singleton]; omega)]
          exact ih K _ (n + 1) _ _ _ (by omega) (by omega) (by rw [List.length_append,List.length_singleton]; omega) (by rw [List.length_append,List.length_singleton]; omega) (by omega)
        · rw [cdn c2]
          exact ih K _ (n + 1) _ _ _ (by omega) (by omega) (by rw [List.length_append,List.length_singleton]; omega) (by omega) (by omega)
    · rw [cdn c1]; exact ⟨_,rfl⟩
theorem v391 (hd:0≤d∧d≤64) (hrc:RcV a0 rc (d + 1)) (hj:TJ 65 js) (hb:jbk js≤1000000) (hK:3000000≤K) (b:Bool) (hq7:b = true→(rd a0 a2).fKind = 12→js.fKind = 7):∃ r,f369_j391 K js rc a0 a2 d a1 b = some r:=by
  have hl:=hj.lens
  unfold f369_j391
  have:∃ z,f369_l395 js rc a0 a2 d K b 0 (IntKind.i64.wrap (a1 + 1)) [] [] = some (.b0 z):=by
    cases b with
    | true=>exact items_l hd hrc hj hb (hq7 rfl) js.fL.length K true 0 _ [] [] (by omega) (by omega) (by simp) (by simp) (by omega)
    | false =>
      obtain ⟨K,rfl⟩:∃ j,K = j + 1:=⟨K - 1,by omega⟩
      rw [f369_l395]
      by_cases c:(0:Int) < ((js.fL.length:Nat):Int)
      · rw [cdp c]; exact ⟨_,rfl⟩
      · rw [cdn c]; exact ⟨_,rfl⟩
  obtain ⟨z,h⟩:=this
  rw [h,Option.bind_some]
  exact v543 ..
theorem v368 (hI:Inv a0) (hi:0≤a2∧a2 < ((a0.length:Nat):Int)) (hd:0≤d∧d≤64) (hrc:RcV a0 rc (d + 1)) (hj:TJ 65 js) (hb:jbk js≤1000000) (hK:3000000≤K) (b:Bool):∃ r,f369_j368 K a0 a2 js rc d a1 b = some r:=by
  have hn:NodeOk a0.length (rd a0 a2):=hI.get (i:=a2.toNat) (by omega)
  have ls:=hn.lens
  have m12:∃ r,cond (decide ((rd a0 a2).fKind = (12:Int))) (f369_j391 K js rc a0 a2 d a1 (decide (js.fKind = (7:Int)))) (f369_j391 K js rc a0 a2 d a1 false) = some r :=
    tc (v391 hd hrc hj hb hK _ (fun h _=>of_decide_eq_true h)) (v391 hd hrc hj hb hK _ (fun h=>by cases h))
  unfold f369_j368
  cases b with
  | true =>
    rw [cond_true]
    refine tk (fun h11=>tc (v391 hd hrc hj hb hK _ (fun _ h=>?_)) m12) (fun _=>m12)
    rw [h11] at h; cases h
  | false =>
    rw [cond_false]
    refine tc ?_ (tc (tk (fun hp=>?_) (fun _=>v543 ..)) (v543 ..))
    · obtain ⟨r,hr⟩:=rec_at a0 (IntKind.i64.wrap (a1 + 1)) (rd a0 a2) ((rd a0 a2).fKind) 0 js d (decide (js.fKind = 7)) rc K hd hrc hj hb (by omega) hK
      rw [hr,Option.bind_some]
      exact v543 ..
    · rw [gdp (by omega),i64w (n:=d + 1) (by omega)]
      obtain ⟨r,hr⟩:=hrc (IntKind.i64.wrap (a1 + 1)) (rd ((rd a0 a2).fBranches) 0) js hj hb
      rw [hr,Option.bind_some]
      exact v543 ..
theorem v242 (hI:Inv a0) (hi:0≤a2∧a2 < ((a0.length:Nat):Int)) (hd:0≤d∧d≤64) (hrc:RcV a0 rc (d + 1)) (hj:TJ 65 js) (hb:jbk js≤1000000) (hK:3000000≤K) (b:Bool):∃ r,f369_j242 K js a0 a2 a1 rc d b = some r:=by
  have hn:NodeOk a0.length (rd a0 a2):=hI.get (i:=a2.toNat) (by omega)
  have ls:=hn.lens
  have hl:=hj.lens
  unfold f369_j242
  refine tc (tc ?_ (v263 ..)) (tc (v543 ..) (tc ?_ (tc (v368 hI hi hd hrc hj hb hK _) (v368 hI hi hd hrc hj hb hK _))))
  · obtain ⟨r,b',hr⟩:=signs_at K js.fText (by omega) (by omega)
    rw [hr,Option.bind_some]
    exact v263 ..
  · obtain ⟨z,hz⟩:=symv_l (js:=js) (a0:=a0) (a2:=a2) (by omega) (rd a0 a2).fSymbols.length K false 0 0 (by omega) (by omega) (by omega)
    rw [hz,Option.bind_some]
    exact v543 ..
theorem v140 (hI:Inv a0) (hi:0≤a2∧a2 < ((a0.length:Nat):Int)) (hd:0≤d∧d≤64) (hrc:RcV a0 rc (d + 1)) (hj:TJ 65 js) (hb:jbk js≤1000000) (hK:3000000≤K) (b:Bool):∃ r,f369_j140 K js a0 a2 a1 rc d b = some r:=by
  have hl:=hj.lens
  unfold f369_j140
  refine tc (tk (fun h4=>?_) (fun _=>v161 ..)) (tc (tc ?_ (v543 ..)) (tc (tc ?_ (v543 ..)) (tc (v242 hI hi hd hrc hj hb hK _) (v242 hI hi hd hrc hj hb hK _))))
  · obtain ⟨x,b',hr⟩:=whole_at K js.fText (by omega) (hj.1 h4) (by omega)
    rw [hr,Option.bind_some]
    exact v161 ..
  · obtain ⟨x,b',hr⟩:=hex_at K js.fText 4 (.inl rfl) (by omega)
    rw [hr,Option.bind_some]
    exact v543 ..
  · obtain ⟨x,b',hr⟩:=hex_at K js.fText 8 (.inr rfl) (by omega)
    rw [hr,Option.bind_some]
    exact v543 ..
theorem value_v (hI:Inv a0) (hd:0≤d) (hrc:d≤64→RcV a0 rc (d + 1)) (hj:TJ 65 js) (hb:jbk js≤1000000) (hK:3000000≤K):∃ r,f369_s rc K a0 a1 a2 js d = some r:=by
  unfold f369_s
  have yes:∃ r,f369_j45 K a1 a2 a0 js rc d true = some r:=⟨_,rfl⟩
  refine tk (fun _=>yes) fun h1=>tk (fun _=>yes) fun h2=>tk (fun _=>yes) fun h3=>?_
  have hd':0≤d∧d≤64:=by omega
  have hi:0≤a2∧a2 < ((a0.length:Nat):Int):=by omega
  generalize decide ((IntKind.i64.wrap (a1 + (1:Int))) > (10000:Int)) = b
  unfold f369_j45
  refine tc ⟨_,rfl⟩ ?_
  rw [gdp hi]
  have g:=v140 (a1:=a1) hI hi hd' (hrc (by omega)) hj hb hK
  exact tc (v543 ..) (tc (tc (v116 ..) (v116 ..)) (tc (g _) (g _)))
end
theorem value_h {a0:List TNode} (hI:Inv a0):∀ (h K:Nat),h≤66→h + 3000001≤K→RcV a0 (f369 K) (66 - (h:Int))
  | 0,K,_,hK=>by
    obtain ⟨K,rfl⟩:∃ j,K = j + 1:=⟨K - 1,by omega⟩
    intro c i j hj hb
    rw [f369]
    exact value_v hI (by omega) (fun h=>by omega) hj hb (by omega)
  | h + 1,K,hh,hK=>by
    obtain ⟨K,rfl⟩:∃ j,K = j + 1:=⟨K - 1,by omega⟩
    intro c i j hj hb
    rw [f369]
    refine value_v hI (by omega) (fun _=>?_) hj hb (by omega)
    have:=value_h hI h K (by omega) (by omega)
    rwa [show (66:Int) - ((h + 1:Nat):Int) + 1 = 66 - (h:Int) by omega]
theorem default_at {a0:List TNode} (hI:Inv a0) (K:Nat) (i:Int) (j:TJson) (hj:TJ 65 j) (hb:jbk j≤1000000) (hK:4000000≤K):∃ r,f368 K ⟨a0⟩ i j = some r:=by
  unfold f368
  obtain ⟨b,hb2⟩:=right_at K hj hb (by omega)
  rw [hb2,Option.bind_some]
  refine tc ⟨_,rfl⟩ ?_
  obtain ⟨r,hr⟩:=value_h hI 65 K (by omega) (by omega) 0 i j hj hb
  rw [show (66:Int) - ((65:Nat):Int) = 1 by omega] at hr
  rw [hr,Option.bind_some]
  exact ⟨_,rfl⟩
def SchT (o:Option (LR2 Unit Unit (Int×(List TNode)))):Prop:=∃ z,o = some z∧(z = .b0 ()∨z = .r (10,[]))
theorem dfl_l {xs:List TNode} {m:Nat} {e r:Int} (hI:Inv xs) (i:Int) (hi:0≤i∧i < ((xs.length:Nat):Int)):∀ (q K:Nat) (n:Int),(((rd xs i).fFields.length:Nat):Int) - n≤(q:Int)→0≤n→q + 4000001≤K →
    SchT (f294_l102 i (r,xs.length,e,xs) K n):=by
  have ls:=(hI.get (i:=i.toNat) (by omega)).lens
  have ls2:(rd xs i).fFields.length≤1000000:=ls.2.1
  have step:∀ (K:Nat) (n:Int),0≤n→4000000≤K→(n < (((rd xs i).fFields.length:Nat):Int)→SchT (f294_l102 i (r,xs.length,e,xs) K (n + 1)))→SchT (f294_l102 i (r,xs.length,e,xs) (K + 1) n):=by
    intro K n h0 hK hn
    rw [f294_l102]
    simp only [List.take_length]
    rw [gdp hi]
    by_cases c:n < (((rd xs i).fFields.length:Nat):Int)
    · rw [cdp c,gdp hi,gdp ⟨h0,c⟩,i64w (n:=n + 1) (by omega)]
      cases (rd ((rd xs i).fFields) n).fHas with
      | false=>exact hn c
      | true =>
        obtain ⟨e',k',t',l',ks',p1,p2,p3⟩:=parse_at ((rd ((rd xs i).fFields) n).fDefault) K (by omega)
        show SchT (Option.bind (f295 K ((rd ((rd xs i).fFields) n).fDefault)) _)
        rw [p1,Option.bind_some]
        obtain ⟨w,hw⟩:=default_at hI K ((rd ((rd xs i).fFields) n).fType) ⟨k',t',l',ks'⟩ p2 (by omega) (by omega)
        show SchT (Option.bind (f368 K (TSchema.mk xs) ((rd ((rd xs i).fFields) n).fType) (TJson.mk k' t' l' ks')) _)
        rw [hw,Option.bind_some]
        show SchT (cond (!w.1) _ _)
        cases w.1 with
        | false=>exact ⟨_,rfl,.inr rfl⟩
        | true=>exact hn c
    · rw [cdn c]; exact ⟨_,rfl,.inl rfl⟩
  intro q
  induction q with
  | zero =>
    intro K n hq h0 hK
    obtain ⟨K,rfl⟩:∃ j,K = j + 1:=⟨K - 1,by omega⟩
    exact step K n h0 (by omega) (fun h=>by omega)
  | succ q ih =>
    intro K n hq h0 hK
    obtain ⟨K,rfl⟩:∃ j,K = j + 1:=⟨K - 1,by omega⟩
    exact step K n h0 (by omega) (fun h=>ih K (n + 1) (by omega) (by omega) (by omega))
theorem nodes_l {xs:List TNode} {e r:Int} (hI:Inv xs):∀ (q K:Nat) (n:Int),((xs.length:Nat):Int) - n≤(q:Int)→0≤n→q + 6000001≤K→SchT (f294_l82 (r,xs.length,e,xs) K n):=by
  have hl:=hI.len
  have step:∀ (K:Nat) (n:Int),0≤n→6000000≤K→(n < ((xs.length:Nat):Int)→SchT (f294_l82 (r,xs.length,e,xs) K (n + 1)))→SchT (f294_l82 (r,xs.length,e,xs) (K + 1) n):=by
    intro K n h0 hK hn
    rw [f294_l82]
    simp only [List.take_length]
    by_cases c:n < ((xs.length:Nat):Int)
    · have ls:=(hI.get (i:=n.toNat) (by omega)).lens
      have ls2:(rd xs n).fFields.length≤1000000:=ls.2.1
      rw [cdp c,i64w (n:=n + 1) (by omega)]
      obtain ⟨z,h1,h2⟩:=dfl_l (m:=0) (e:=e) (r:=r) hI n ⟨h0,c⟩ (rd xs n).fFields.length K 0 (by omega) (by omega) (by omega)
      rw [h1,Option.bind_some]
      rcases h2 with rfl | rfl
      · exact hn c
      · exact ⟨_,rfl,.inr rfl⟩
    · rw [cdn c]; exact ⟨_,rfl,.inl rfl⟩
  intro q
  induction q with
  | zero =>
    intro K n hq h0 hK
    obtain ⟨K,rfl⟩:∃ j,K = j + 1:=⟨K - 1,by omega⟩
    exact step K n h0 (by omega) (fun h=>by omega)
  | succ q ih =>
    intro K n hq h0 hK
    obtain ⟨K,rfl⟩:∃ j,K = j + 1:=⟨K - 1,by omega⟩
    exact step K n h0 (by omega) (fun h=>ih K (n + 1) (by omega) (by omega) (by omega))
theorem schema_at (t:List UInt8) (K:Nat) (hK:7000000≤K):∃ (e:Int) (ns:List TNode),f294 K t = some (e,ns)∧(e = 0→Inv ns∧ns≠[]):=by
  unfold f294
  obtain ⟨e,k,x,l,ks,p1,p2,p3⟩:=parse_at t K (by omega)
  rw [p1,Option.bind_some]
  show ∃ (e':Int) (ns:List TNode),cond (decide (e≠0)) (some (e,[])) ((f357 K [] 0 0 0 ⟨k,x,l,ks⟩ []).bind _) = _∧_
  by_cases c:e≠0
  · rw [cdp c]; exact ⟨e,[],rfl,fun h=>absurd h c⟩
  rw [cdn c]
  obtain ⟨r,e',xs,h1,h2,h3,h4,h5⟩:=one_at 65 K (by omega) (by omega) [] 0 0 ⟨k,x,l,ks⟩ [] ⟨by simp,fun x h=>(List.not_mem_nil h).elim⟩ (Nat.zero_le _) (fun _=>⟨p2,p3⟩) (by simp)
  rw [show (([]:List TNode).length) = 0 from rfl] at h1
  rw [h1,Option.bind_some]
  show ∃ (e'':Int) (ns:List TNode),cond (decide (e'≠0)) (some (e',[])) (gd (xs.length≤xs.length) ((f294_l82 (r,xs.length,e',xs) K 0).bind _)) = _∧_
  by_cases c2:e'≠0
  · rw [cdp c2]; exact ⟨e',[],rfl,fun h=>absurd h c2⟩
  rw [cdn c2,gdp (Nat.le_refl _)]
  have he:e' = 0:=by
    by_cases h:e' = 0
    · exact h
    · exact absurd h c2
  have hl:=h2.len
  obtain ⟨z,g1,g2⟩:=nodes_l (e:=e') (r:=r) h2 xs.length K 0 (by omega) (by omega) (by omega)
  rw [g1,Option.bind_some]
  rcases g2 with rfl | rfl
  · refine ⟨0,xs,?_,fun _=>⟨h2,fun hx=>?_⟩⟩
    · show f294_j196 K (r,xs.length,e',xs) = _
      unfold f294_j196
      show some ((0:Int),List.take xs.length xs) = _
      rw [List.take_length]
    · have:=h5 he
      rw [hx] at this
      simp at this
      omega
  · exact ⟨10,[],rfl,fun h=>by cases h⟩
end Go.Proofs.Abs
end
section
namespace Go.Proofs.Abs
open Go
set_option linter.unusedVariables false
set_option maxRecDepth 100000
theorem at_t (K:Nat) (i:Int) (row:List Int):∃ r,f305 K i row = some r:=by
  unfold f305
  exact tk (fun _=>⟨_,rfl⟩) fun h1=>tk (fun _=>⟨_,rfl⟩) fun h2=>⟨_,by rw [gdp (by omega)]⟩
theorem rankf_l (x:TNode) (row:List Int) (hf:x.fFields.length≤1000000):∀ (q K:Nat) (y n:Int),((x.fFields.length:Nat):Int) - n≤(q:Int)→0≤n→q + 1≤K→∃ z,f304_l37 x row K y n = some z∧(z = .r (-1)∨∃ w,z = .b0 w):=by
  intro q
  induction q with
  | zero =>
    intro K y n hq h0 hK
    obtain ⟨K,rfl⟩:∃ j,K = j + 1:=⟨K - 1,by omega⟩
    exact ⟨_,by rw [f304_l37,cdn (by omega)],.inr ⟨_,rfl⟩⟩
  | succ q ih =>
    intro K y n hq h0 hK
    obtain ⟨K,rfl⟩:∃ j,K = j + 1:=⟨K - 1,by omega⟩
    rw [f304_l37]
    by_cases c:n < ((x.fFields.length:Nat):Int)
    · obtain ⟨r,hr⟩:=at_t K ((rd x.fFields n).fType) row
      rw [cdp c,gdp (by omega),hr,Option.bind_some,i64w (n:=n + 1) (by omega)]
      by_cases c2:r = -1
      · rw [cdp c2]; exact ⟨_,rfl,.inl rfl⟩
      · rw [cdn c2]; exact ih K _ (n + 1) (by omega) (by omega) (by omega)
    · rw [cdn c]; exact ⟨_,rfl,.inr ⟨_,rfl⟩⟩
theorem rankb_l (x:TNode) (row:List Int) (hf:x.fBranches.length≤1000000):∀ (q K:Nat) (y n:Int),((x.fBranches.length:Nat):Int) - n≤(q:Int)→0≤n→q + 1≤K→∃ z,f304_l112 x row K y n = some (.b0 z):=by
  intro q
  induction q with
  | zero =>
    intro K y n hq h0 hK
    obtain ⟨K,rfl⟩:∃ j,K = j + 1:=⟨K - 1,by omega⟩
    exact ⟨_,by rw [f304_l112,cdn (by omega)]⟩
  | succ q ih =>
    intro K y n hq h0 hK
    obtain ⟨K,rfl⟩:∃ j,K = j + 1:=⟨K - 1,by omega⟩
    rw [f304_l112]
    by_cases c:n < ((x.fBranches.length:Nat):Int)
    · obtain ⟨r,hr⟩:=at_t K (rd x.fBranches n) row
      rw [cdp c,gdp (by omega),hr,Option.bind_some,i64w (n:=n + 1) (by omega)]
      have g:∀ y,∃ z,f304_l112 x row K y (n + 1) = some (.b0 z):=fun y=>ih K y (n + 1) (by omega) (by omega) (by omega)
      cases decide (r≠-1)
      · exact g y
      · rw [cond_true]
        cases decide (y = -1)
        · rw [cond_false]
          cases decide (r < y)
          · exact g y
          · exact g r
        · exact g r
    · rw [cdn c]; exact ⟨_,rfl⟩
theorem rank_t (x:TNode) (row:List Int) (K:Nat) (hf:x.fFields.length≤1000000) (hb:x.fBranches.length≤1000000) (hK:1000001≤K):∃ r,f304 K x row = some r:=by
  unfold f304
  refine tc ?_ (tc ?_ (tc ⟨_,rfl⟩ (tc ⟨_,rfl⟩ ⟨_,rfl⟩)))
  · obtain ⟨z,h1,h2⟩:=rankf_l x row hf x.fFields.length K 0 0 (by omega) (by omega) (by omega)
    rw [h1,Option.bind_some]
    rcases h2 with rfl | ⟨w,rfl⟩
    · exact ⟨_,rfl⟩
    · exact ⟨_,rfl⟩
  · obtain ⟨z,h1⟩:=rankb_l x row hb x.fBranches.length K (-1) 0 (by omega) (by omega) (by omega)
    rw [h1,Option.bind_some]
    show ∃ r,f304_j161 K z = some r
    unfold f304_j161
    exact tc ⟨_,rfl⟩ ⟨_,rfl⟩
abbrev cm (l:List Int):Nat:=l.count (-1)
theorem cm_set (l:List Int) (i:Nat) (r:Int) (h:i < l.length) (ho:l.getD i default = -1):cm (l.set i r) + (if r = -1 then 0 else 1) = cm l:=by
  have hg:l[i] = -1:=by rw [rd_get h]; exact ho
  have hpos:0 < l.count (-1):=List.count_pos_iff.2 (hg ▸ List.getElem_mem h)
  unfold cm
  rw [List.count_set h]
  simp only [hg,beq_self_eq_true,if_true,beq_iff_eq]
  split <;> omega
theorem round_l {ns:List TNode} (hI:Inv ns) (old:List Int) (ho:old.length = ns.length):∀ (q K:Nat) (fl:Bool) (n:Int) (nr:List Int),((ns.length:Nat):Int) - n≤(q:Int)→0≤n→nr.length = ns.length→(∀ j:Nat,n≤(j:Int)→nr.getD j default = old.getD j default)→cm nr + (if fl then 1 else 0)≤cm old→q + 1000002≤K →
    ∃ fl' nr',f250_l85 ⟨ns⟩ old.length old K fl n nr = some (.b0 (fl',nr'))∧nr'.length = ns.length∧cm nr' + (if fl' then 1 else 0)≤cm old:=by
  have hl:=hI.len
  intro q
  induction q with
  | zero =>
    intro K fl n nr hq h0 hn hs hc hK
    obtain ⟨K,rfl⟩:∃ j,K = j + 1:=⟨K - 1,by omega⟩
    exact ⟨fl,nr,by rw [f250_l85,cdn (by show ¬ n < ((ns.length:Nat):Int); omega)],hn,hc⟩
  | succ q ih =>
    intro K fl n nr hq h0 hn hs hc hK
    obtain ⟨K,rfl⟩:∃ j,K = j + 1:=⟨K - 1,by omega⟩
    rw [f250_l85]
    by_cases c:n < ((ns.length:Nat):Int)
    · have ok:=hI.get (i:=n.toNat) (by omega)
      rw [cdp (show n < (((TSchema.mk ns).fNodes.length:Nat):Int) from c),gdp ⟨h0,c⟩,gdp (by omega),gdp (by omega),i64w (n:=n + 1) (by omega)]
      by_cases c2:old.getD n.toNat default≠-1
      · rw [cdp c2]
        exact ih K fl (n + 1) nr (by omega) (by omega) hn (fun j hj=>hs j (by omega)) hc (by omega)
      · have hold:old.getD n.toNat default = -1:=Classical.byContradiction c2
        rw [cdn c2,gdp (Nat.le_refl _),List.take_length]
        obtain ⟨r,hr⟩:=rank_t (rd ns n) old K ok.lens.2.1 ok.lens.1 (by omega)
        rw [hr,Option.bind_some,gdp (by omega),gdp (by omega)]
        have hnr:nr.getD n.toNat default = -1:=by rw [hs n.toNat (by omega)]; exact hold
        have hcs:=cm_set nr n.toNat r (by omega) hnr
        have hs2:∀ j:Nat,n + 1≤(j:Int)→(nr.set n.toNat r).getD j default = old.getD j default:=fun j hj=>by
          rw [←hs j (by omega)]
          simp only [List.getD_eq_getElem?_getD,List.getElem?_set]
          rw [if_neg (by omega)]
        cases fl with
        | true =>
          rw [cond_true]
          exact ih K true (n + 1) _ (by omega) (by omega) (by rw [List.length_set]; exact hn) hs2 (by simp only [if_true] at hc ⊢; omega) (by omega)
        | false =>
          have hg:(nr.set n.toNat r).getD n.toNat default = r:=by
            rw [List.getD_eq_getElem?_getD,List.getElem?_set_self (by omega)]
            rfl
          rw [cond_false,gdp (by omega),gdp (by rw [List.length_set]; omega),hg]
          refine ih K _ (n + 1) _ (by omega) (by omega) (by rw [List.length_set]; exact hn) hs2 ?_ (by omega)
          by_cases h:r = -1
          · rw [if_pos h] at hcs
            simp only [h,ne_eq,not_true_eq_false,decide_false,Bool.false_eq_true,if_false]
            rw [h] at hcs
            simp only [Bool.false_eq_true,if_false] at hc
            omega
          · rw [if_neg h] at hcs
            simp only [h,ne_eq,not_false_eq_true,decide_true,if_true]
            simp only [Bool.false_eq_true,if_false] at hc
            omega
    · rw [cdn (show ¬ n < (((TSchema.mk ns).fNodes.length:Nat):Int) from c)]
      exact ⟨fl,nr,rfl,hn,hc⟩
theorem rounds_l {ns:List TNode} (hI:Inv ns):∀ (q K:Nat) (fl:Bool) (row:List Int),row.length = ns.length→cm row + (if fl then 1 else 0)≤q→q + 1000300≤K →
    ∃ row',f250_l53 ⟨ns⟩ K row.length fl row = some (.b0 (row'.length,row'))∧row'.length = ns.length:=by
  have hl:=hI.len
  intro q
  induction q with
  | zero =>
    intro K fl row hr hc hK
    obtain ⟨K,rfl⟩:∃ j,K = j + 1:=⟨K - 1,by omega⟩
    cases fl with
    | true=>simp only [if_true] at hc; omega
    | false=>exact ⟨row,by rw [f250_l53]; rfl,hr⟩
  | succ q ih =>
    intro K fl row hr hc hK
    obtain ⟨K,rfl⟩:∃ j,K = j + 1:=⟨K - 1,by omega⟩
    cases fl with
    | false=>exact ⟨row,by rw [f250_l53]; rfl,hr⟩
    | true =>
      simp only [if_true] at hc
      rw [f250_l53,cond_true,gdp (Nat.le_refl _),List.take_length,gdp (by omega)]
      obtain ⟨fl',nr',h1,h2,h3⟩:=round_l hI row hr ns.length K false 0 row (by omega) (by omega) hr (fun _ _=>rfl) (by simp) (by omega)
      rw [h1,Option.bind_some]
      obtain ⟨row',g1,g2⟩:=ih K fl' nr' h2 (by omega) (by omega)
      rw [hr,←h2]
      exact ⟨row',g1,by omega⟩
theorem fill_l {ns:List TNode} (hl:ns.length≤200):∀ (q K:Nat) (n:Int) (row:List Int),((ns.length:Nat):Int) - n≤(q:Int)→0≤n→row.length = ns.length→q + 1≤K→∃ row',f250_l21 ⟨ns⟩ K n row = some (.b0 row')∧row'.length = ns.length:=by
  intro q
  induction q with
  | zero =>
    intro K n row hq h0 hr hK
    obtain ⟨K,rfl⟩:∃ j,K = j + 1:=⟨K - 1,by omega⟩
    exact ⟨row,by rw [f250_l21,cdn (by show ¬ n < _; simp only [Int.toNat_natCast]; omega)],hr⟩
  | succ q ih =>
    intro K n row hq h0 hr hK
    obtain ⟨K,rfl⟩:∃ j,K = j + 1:=⟨K - 1,by omega⟩
    rw [f250_l21]
    by_cases c:n < ((ns.length:Nat):Int)
    · rw [cdp (by simp only [Int.toNat_natCast]; exact c),gdp (by simp only [Int.toNat_natCast]; exact ⟨h0,c⟩),gdp (by omega),i64w (n:=n + 1) (by omega)]
      exact ih K (n + 1) _ (by omega) (by omega) (by rw [List.length_set]; exact hr) (by omega)
    · rw [cdn (by simp only [Int.toNat_natCast]; exact c)]
      exact ⟨row,rfl,hr⟩
theorem ranks_t {ns:List TNode} (hI:Inv ns) (K:Nat) (hK:1001000≤K):∃ r,f250 K ⟨ns⟩ = some r∧r.length = ns.length:=by
  have hl:=hI.len
  unfold f250
  rw [gdp (by show 0≤((ns.length:Nat):Int)∧((ns.length:Nat):Int)≤((ns.length:Nat):Int)∧((ns.length:Nat):Int) * 8≤_; omega)]
  obtain ⟨row,h1,h2⟩:=fill_l hl ns.length K 0 (List.replicate ns.length default) (by omega) (by omega) (by rw [List.length_replicate]) (by omega)
  show ∃ r,Option.bind (f250_l21 ⟨ns⟩ K 0 (List.replicate ns.length default)) _ = some r∧_
  rw [h1,Option.bind_some]
  show ∃ r,f250_j48 K ⟨ns⟩ row = some r∧_
  unfold f250_j48
  have hcm:cm row≤200:=by
    have:=List.count_le_length (a:=(-1:Int)) (l:=row)
    show row.count (-1)≤200
    omega
  obtain ⟨row',g1,g2⟩:=rounds_l hI 201 K true row h2 (by simp only [if_true]; omega) (by omega)
  show ∃ r,Option.bind (f250_l53 ⟨ns⟩ K ns.length true row) _ = some r∧_
  rw [←h2,g1,Option.bind_some]
  show ∃ r,gd (row'.length≤row'.length) (some (List.take row'.length row')) = some r∧_
  rw [gdp (Nat.le_refl _),List.take_length]
  exact ⟨row',rfl,by omega⟩
theorem alive_l (r:List Int) (hr:r.length≤200):∀ (q K:Nat) (y:List Bool) (n:Int),((r.length:Nat):Int) - n≤(q:Int)→0≤n→(y.length:Int) = n→n≤((r.length:Nat):Int)→q + 1≤K→∃ y',f307_l18 r K y n = some (.b0 y')∧y'.length = r.length:=by
  intro q
  induction q with
  | zero =>
    intro K y n hq h0 hy hn hK
    obtain ⟨K,rfl⟩:∃ j,K = j + 1:=⟨K - 1,by omega⟩
    exact ⟨y,by rw [f307_l18,cdn (by omega)],by omega⟩
  | succ q ih =>
    intro K y n hq h0 hy hn hK
    obtain ⟨K,rfl⟩:∃ j,K = j + 1:=⟨K - 1,by omega⟩
    rw [f307_l18]
    by_cases c:n < ((r.length:Nat):Int)
    · rw [cdp c,gdp (by omega),gdp (by simp only [List.length_singleton]; omega),i64w (n:=n + 1) (by omega)]
      exact ih K _ (n + 1) (by omega) (by omega) (by rw [List.length_append,List.length_singleton]; omega) (by omega) (by omega)
    · rw [cdn c]; exact ⟨y,rfl,by omega⟩
theorem nodes_t {ns:List TNode} (hI:Inv ns) (K:Nat) (hK:1001000≤K):∃ y,f307 K ⟨ns⟩ = some y∧y.length = ns.length:=by
  have hl:=hI.len
  unfold f307
  obtain ⟨r,h1,h2⟩:=ranks_t hI K hK
  rw [h1,Option.bind_some]
  obtain ⟨y,g1,g2⟩:=alive_l r (by omega) r.length K [] 0 (by omega) (by omega) (by simp) (by omega) (by omega)
  rw [g1,Option.bind_some]
  exact ⟨y,rfl,by omega⟩
end Go.Proofs.Abs
end
section
namespace Go.Proofs.Abs
open Go
set_option linter.unusedVariables false
set_option maxRecDepth 100000
theorem lastI_l (s:List UInt8) (c:UInt8) (hb:s.length≤1000000):∀ (q K:Nat) (n:Int),n≤(q:Int)→n < ((s.length:Nat):Int)→-1≤n→q + 2≤K→∃ z,f238_l13 s c K n = some z∧(z = .b0 ()∨∃ w:Int,z = .r w∧0≤w∧w < ((s.length:Nat):Int)):=by
  have step:∀ (K:Nat) (n:Int),n < ((s.length:Nat):Int)→-1≤n→(0≤n→∃ z,f238_l13 s c K (n - 1) = some z∧(z = .b0 ()∨∃ w:Int,z = .r w∧0≤w∧w < ((s.length:Nat):Int)))→∃ z,f238_l13 s c (K + 1) n = some z∧(z = .b0 ()∨∃ w:Int,z = .r w∧0≤w∧w < ((s.length:Nat):Int)):=by
    intro K n h1 h2 hn
    rw [f238_l13]
    by_cases c1:n ≥ 0
    · rw [cdp c1,gdp (by omega),i64w (n:=n - 1) (by omega)]
      cases decide ((((s.getD n.toNat 0).toNat:Nat):Int) = ((c.toNat:Nat):Int))
      · exact hn c1
      · exact ⟨_,rfl,.inr ⟨n,rfl,c1,h1⟩⟩
    · rw [cdn c1]; exact ⟨_,rfl,.inl rfl⟩
  intro q
  induction q with
  | zero =>
    intro K n hq h1 h2 hK
    obtain ⟨K,rfl⟩:∃ j,K = j + 1 + 1:=⟨K - 2,by omega⟩
    refine step (K + 1) n h1 h2 (fun h0=>⟨.b0 (),?_,.inl rfl⟩)
    rw [f238_l13,cdn (by omega)]
  | succ q ih =>
    intro K n hq h1 h2 hK
    obtain ⟨K,rfl⟩:∃ j,K = j + 1:=⟨K - 1,by omega⟩
    exact step K n h1 h2 (fun h0=>ih K (n - 1) (by omega) (by omega) (by omega) (by omega))
theorem short_t (s:List UInt8) (K:Nat) (hb:s.length≤1000000) (hK:1000010≤K):∃ r,f235 K s = some r:=by
  unfold f235 f236 f237 f238
  obtain ⟨z,h1,h2⟩:=lastI_l s 46 hb s.length K (((s.length:Nat):Int) - 1) (by omega) (by omega) (by omega) (by omega)
  rw [i64w (n:=((s.length:Nat):Int) - 1) (by omega),h1]
  rcases h2 with rfl | ⟨w,rfl,w1,w2⟩
  · exact ⟨_,rfl⟩
  · show ∃ r,Option.bind (cond (decide (w < 0)) _ (gd (0≤(0:Int)∧(0:Int)≤w∧w≤((s.length:Nat):Int)) (gd (0≤(IntKind.i64.wrap (w + (1:Int)))∧(IntKind.i64.wrap (w + (1:Int)))≤((s.length:Nat):Int)∧((s.length:Nat):Int)≤((s.length:Nat):Int)) _))) _ = some r
    rw [cdn (by omega),gdp (by omega),i64w (by omega),gdp (by omega)]
    exact ⟨_,rfl⟩
theorem index_l (ks:List (List UInt8)) (q:List UInt8) (hb:ks.length≤1000000):∀ (j K:Nat) (i:Int),((ks.length:Nat):Int) - i≤(j:Int)→0≤i→j + 1≤K→∃ z,f240_l12 ks q K i = some z∧(z = .b0 ()∨∃ w:Int,z = .r w):=by
  intro j
  induction j with
  | zero =>
    intro K i hj h0 hK
    obtain ⟨K,rfl⟩:∃ j,K = j + 1:=⟨K - 1,by omega⟩
    exact ⟨_,by rw [f240_l12,cdn (by omega)],.inl rfl⟩
  | succ j ih =>
    intro K i hj h0 hK
    obtain ⟨K,rfl⟩:∃ j,K = j + 1:=⟨K - 1,by omega⟩
    rw [f240_l12]
    by_cases c:i < ((ks.length:Nat):Int)
    · rw [cdp c,gdp (by omega),i64w (n:=i + 1) (by omega)]
      by_cases c2:q = rd ks i
      · rw [cdp c2]; exact ⟨_,rfl,.inr ⟨_,rfl⟩⟩
      · rw [cdn c2]; exact ih K (i + 1) (by omega) (by omega) (by omega)
    · rw [cdn c]; exact ⟨_,rfl,.inl rfl⟩
theorem holds_t (ks:List (List UInt8)) (q:List UInt8) (K:Nat) (hb:ks.length≤1000000) (hK:1000010≤K):∃ r,f239 K ks q = some r:=by
  unfold f239 f240
  obtain ⟨z,h1,h2⟩:=index_l ks q hb ks.length K 0 (by omega) (by omega) (by omega)
  rw [h1]
  rcases h2 with rfl | ⟨w,rfl⟩
  · exact ⟨_,rfl⟩
  · exact ⟨_,rfl⟩
def Mod (x:TNode):Prop:=x.fBranches.length≤1000000∧x.fFields.length≤1000000∧x.fSymbols.length≤1000000∧x.fAliases.length≤1000000∧x.fName.length≤1000000
theorem like_t (x y:TNode) (K:Nat) (hx:Mod x) (hy:Mod y) (hK:1000010≤K):∃ r,f234 K x y = some r:=by
  unfold f234
  obtain ⟨a,ha⟩:=short_t x.fName K hx.2.2.2.2 hK
  obtain ⟨b,hb⟩:=short_t y.fName K hy.2.2.2.2 hK
  rw [ha,Option.bind_some,hb,Option.bind_some]
  obtain ⟨c,hc⟩:=holds_t y.fAliases x.fName K hy.2.2.2.1 hK
  exact tc ⟨_,rfl⟩ (by rw [hc,Option.bind_some]; exact ⟨_,rfl⟩)
theorem kinds_t (x y:TNode) (K:Nat) (hx:Mod x) (hy:Mod y) (hK:1000010≤K):∃ r,f233 K x y = some r:=by
  obtain ⟨a,ha⟩:=like_t x y K hx hy hK
  have j54:∀ b,∃ r,f233_j54 K x y b = some r:=by
    intro b
    unfold f233_j54
    rw [ha]
    exact tc ⟨_,rfl⟩ (tc (tc ⟨_,rfl⟩ ⟨_,rfl⟩) ⟨_,rfl⟩)
  unfold f233
  exact tc (tc (tc ⟨_,rfl⟩ (tc ⟨_,rfl⟩ ⟨_,rfl⟩)) (tc ⟨_,rfl⟩ ⟨_,rfl⟩)) (tc (j54 _) (j54 _))
def nodeT (b:Bool) (x:TNode):Bool×Int×(List UInt8)×(List (List UInt8))×(List TField)×(List (List UInt8))×Bool×(List UInt8)×Int×(List Int)×Int:=(b,x.fKind,x.fName,x.fAliases,x.fFields,x.fSymbols,x.fHas,x.fDefault,x.fItems,x.fBranches,x.fSize)
theorem node_t {ns:List TNode} (hI:Inv ns) (K:Nat) (i:Int):∃ b x,f232 K ⟨ns⟩ i = some (nodeT b x)∧Mod x∧(b = true→(0≤i∧i < ((ns.length:Nat):Int))∧x = rd ns i)∧(b = false→x.fKind = 0):=by
  have no:∃ b x,f232_j20 K i ⟨ns⟩ true = some (nodeT b x)∧Mod x∧(b = true→(0≤i∧i < ((ns.length:Nat):Int))∧x = rd ns i)∧(b = false→x.fKind = 0):=⟨false,⟨0,[],[],[],[],false,[],0,[],0⟩,rfl,by simp [Mod],(fun h=>by cases h),fun _=>rfl⟩
  unfold f232
  by_cases c1:i < 0
  · rw [cdp c1]; exact no
  rw [cdn c1]
  by_cases c2:i ≥ ((ns.length:Nat):Int)
  · rw [show decide (i ≥ (((TSchema.mk ns).fNodes.length:Nat):Int)) = true from decide_eq_true c2]; exact no
  · rw [show decide (i ≥ (((TSchema.mk ns).fNodes.length:Nat):Int)) = false from decide_eq_false c2]
    unfold f232_j20
    have hi:0≤i∧i < ((ns.length:Nat):Int):=by omega
    rw [cond_false,gdp (show 0≤i∧i < (((TSchema.mk ns).fNodes.length:Nat):Int) from hi)]
    exact ⟨true,rd ns i,rfl,(hI.get (i:=i.toNat) (by omega)).lens,(fun _=>⟨hi,rfl⟩),fun h=>by cases h⟩
theorem types_l {ns ms:List TNode} (hn:Inv ns) (hm:Inv ms):∀ (q K:Nat) (i j n:Int),40001 - n≤(q:Int)→0≤n→n≤40001→q + 1000020≤K→∃ z,f231_l20 ⟨ns⟩ ⟨ms⟩ K i j n = some z∧(z = .b0 ()∨∃ w:Bool,z = .r w):=by
  have l1:=hn.len
  have l2:=hm.len
  have hmul:((ns.length:Nat):Int) * ((ms.length:Nat):Int)≤200 * 200:=Int.mul_le_mul (by omega) (by omega) (by omega) (by omega)
  have hpos:0≤((ns.length:Nat):Int) * ((ms.length:Nat):Int):=Int.mul_nonneg (by omega) (by omega)
  have step:∀ (K:Nat) (i j n:Int),0≤n→1000010≤K→(n < 40001→∀ i j,∃ z,f231_l20 ⟨ns⟩ ⟨ms⟩ K i j (n + 1) = some z∧(z = .b0 ()∨∃ w:Bool,z = .r w))→∃ z,f231_l20 ⟨ns⟩ ⟨ms⟩ (K + 1) i j n = some z∧(z = .b0 ()∨∃ w:Bool,z = .r w):=by
    intro K i j n h0 hK hs
    rw [f231_l20]
    show ∃ z,cond (decide (n < IntKind.i64.wrap (IntKind.i64.wrap (((ns.length:Nat):Int) * ((ms.length:Nat):Int)) + 1))) _ _ = some z∧_
    rw [i64w (n:=((ns.length:Nat):Int) * ((ms.length:Nat):Int)) (by omega),i64w (n:=((ns.length:Nat):Int) * ((ms.length:Nat):Int) + 1) (by omega)]
    by_cases c:n < ((ns.length:Nat):Int) * ((ms.length:Nat):Int) + 1
    · rw [cdp c]
      obtain ⟨b1,x,g1,g2,_,_⟩:=node_t hn K i
      obtain ⟨b2,y,e1,e2,_,_⟩:=node_t hm K j
      rw [g1,Option.bind_some,e1,Option.bind_some]
      have rr:∀ w:Bool,∃ z,(some (.r w):Option (LR2 Unit Unit Bool)) = some z∧(z = .b0 ()∨∃ w:Bool,z = .r w):=fun w=>⟨_,rfl,.inr ⟨w,rfl⟩⟩
      have j126:∃ z,f231_j126 (f231_l20 ⟨ns⟩ ⟨ms⟩ K) K (nodeT b1 x) (nodeT b2 y) n = some z∧(z = .b0 ()∨∃ w:Bool,z = .r w):=by
        unfold f231_j126
        rw [i64w (n:=n + 1) (by omega)]
        exact hs (by omega) _ _
      obtain ⟨w,hw⟩:=kinds_t x y K g2 e2 (by omega)
      show ∃ z,cond (!b1) _ (cond (!b2) _ (cond (decide (x.fKind = 13)) _ (cond (decide (y.fKind = 13)) _ (Option.bind (f233 K x y) _)))) = some z∧_
      rw [hw]
      cases b1 with
      | false=>exact rr _
      | true =>
        cases b2 with
        | false=>exact rr _
        | true =>
          rw [Bool.not_true,cond_false,cond_false]
          cases decide (x.fKind = 13) with
          | true=>exact rr _
          | false =>
            rw [cond_false]
            cases decide (y.fKind = 13) with
            | true=>exact rr _
            | false =>
              rw [cond_false,Option.bind_some]
              cases w with
              | false=>exact rr _
              | true =>
                show ∃ z,cond (decide (x.fKind≠11)) (cond (decide (x.fKind≠12)) _ _) _ = some z∧_
                cases decide (x.fKind≠11) with
                | false=>exact j126
                | true =>
                  rw [cond_true]
                  cases decide (x.fKind≠12) with
                  | false=>exact j126
                  | true=>exact rr _
    · rw [cdn c]; exact ⟨_,rfl,.inl rfl⟩
  intro q
  induction q with
  | zero =>
    intro K i j n hq h0 h1 hK
    obtain ⟨K,rfl⟩:∃ j,K = j + 1:=⟨K - 1,by omega⟩
    exact step K i j n h0 (by omega) (fun h=>by omega)
  | succ q ih =>
    intro K i j n hq h0 h1 hK
    obtain ⟨K,rfl⟩:∃ j,K = j + 1:=⟨K - 1,by omega⟩
    exact step K i j n h0 (by omega) (fun h i j=>ih K i j (n + 1) (by omega) (by omega) (by omega) (by omega))
theorem types_t {ns ms:List TNode} (hn:Inv ns) (hm:Inv ms) (K:Nat) (i j:Int) (hK:1100000≤K):∃ r,f231 K ⟨ns⟩ i ⟨ms⟩ j = some r:=by
  unfold f231
  obtain ⟨z,h1,h2⟩:=types_l hn hm 40001 K i j 0 (by omega) (by omega) (by omega) (by omega)
  rw [h1,Option.bind_some]
  rcases h2 with rfl | ⟨w,rfl⟩
  · exact ⟨_,rfl⟩
  · exact ⟨_,rfl⟩
theorem branch_l {ns ms:List TNode} (hn:Inv ns) (hm:Inv ms) (b:Bool) (x:TNode) (hx:Mod x) (i:Int):∀ (q K:Nat) (n:Int),((x.fBranches.length:Nat):Int) - n≤(q:Int)→0≤n→q + 1100001≤K→∃ z,f241_l44 (nodeT b x) ⟨ns⟩ i ⟨ms⟩ K n = some z∧(z = .b0 ()∨∃ w:Int,z = .r w∧0≤w∧w < ((x.fBranches.length:Nat):Int)):=by
  have l1:=hx.1
  have step:∀ (K:Nat) (n:Int),0≤n→1100000≤K→(n < ((x.fBranches.length:Nat):Int)→∃ z,f241_l44 (nodeT b x) ⟨ns⟩ i ⟨ms⟩ K (n + 1) = some z∧(z = .b0 ()∨∃ w:Int,z = .r w∧0≤w∧w < ((x.fBranches.length:Nat):Int)))→∃ z,f241_l44 (nodeT b x) ⟨ns⟩ i ⟨ms⟩ (K + 1) n = some z∧(z = .b0 ()∨∃ w:Int,z = .r w∧0≤w∧w < ((x.fBranches.length:Nat):Int)):=by
    intro K n h0 hK hs
    rw [f241_l44]
    show ∃ z,cond (decide (n < ((x.fBranches.length:Nat):Int))) (gd (0≤n∧n < ((x.fBranches.length:Nat):Int)) (Option.bind (f231 K ⟨ns⟩ i ⟨ms⟩ (rd x.fBranches n)) _)) _ = some z∧_
    by_cases c:n < ((x.fBranches.length:Nat):Int)
    · obtain ⟨r,hr⟩:=types_t hn hm K i (rd x.fBranches n) hK
      rw [cdp c,gdp ⟨h0,c⟩,hr,Option.bind_some,i64w (n:=n + 1) (by omega)]
      cases r with
      | false=>exact hs c
      | true=>exact ⟨_,rfl,.inr ⟨n,rfl,h0,c⟩⟩
    · rw [cdn c]; exact ⟨_,rfl,.inl rfl⟩
  intro q
  induction q with
  | zero =>
    intro K n hq h0 hK
    obtain ⟨K,rfl⟩:∃ j,K = j + 1:=⟨K - 1,by omega⟩
    exact step K n h0 (by omega) (fun h=>by omega)
  | succ q ih =>
    intro K n hq h0 hK
    obtain ⟨K,rfl⟩:∃ j,K = j + 1:=⟨K - 1,by omega⟩
    exact step K n h0 (by omega) (fun h=>ih K (n + 1) (by omega) (by omega) (by omega))
theorem branch_t {ns ms:List TNode} (hn:Inv ns) (hm:Inv ms) (K:Nat) (i j:Int) (hK:2200000≤K):∃ r,f241 K ⟨ns⟩ i ⟨ms⟩ j = some r∧(0≤r→r < (((rd ms j).fBranches.length:Nat):Int)):=by
  unfold f241
  obtain ⟨b,x,g1,g2,g3,g4⟩:=node_t hm K j
  have l1:=g2.1
  rw [g1,Option.bind_some]
  have m1:∃ r,(some (-1:Int):Option Int) = some r∧(0≤r→r < (((rd ms j).fBranches.length:Nat):Int)):=⟨-1,rfl,fun h=>by omega⟩
  show ∃ r,cond (decide (x.fKind≠13)) _ _ = some r∧_
  by_cases c:x.fKind≠13
  · rw [cdp c]; exact m1
  rw [cdn c]
  obtain ⟨z,h1,h2⟩:=branch_l hn hm b x g2 i x.fBranches.length K 0 (by omega) (by omega) (by omega)
  rw [h1,Option.bind_some]
  rcases h2 with rfl | ⟨w,rfl,w1,w2⟩
  · exact m1
  · refine ⟨w,rfl,fun _=>?_⟩
    cases b with
    | true=>rw [←(g3 rfl).2]; exact w2
    | false =>
      have:=g4 rfl
      omega
end Go.Proofs.Abs
end
section
namespace Go.Proofs.Abs
open Go
set_option linter.unusedVariables false
set_option linter.unusedSectionVars false
set_option maxRecDepth 100000
section
variable {κ β:Type} [DecidableEq κ]
def pl (m:PM κ β) (k:κ):Option β:=(pidx m.es k).map (·.2.1)
theorem pget_pl (m:PM κ β) (k:κ) (z:β):pget m k z = (pl m k).getD z:=by
  unfold pget pl
  split
  · rename_i h; rw [h]; rfl
  · rename_i h; rw [h]; rfl
theorem phas_pl (m:PM κ β) (k:κ):phas m k = (pl m k).isSome:=by
  unfold phas pl
  cases pidx m.es k <;> rfl
theorem pidx_get:∀ (es:List (κ×β×Nat)) (k:κ) (j:Nat) (v:β) (b:Nat),pidx es k = some (j,v,b)→es[j]? = some (k,v,b)
  | [],_,_,_,_,h=>by cases h
  | (a,u,c) :: r,k,j,v,b,h=>by
    unfold pidx at h
    by_cases hk:k = a
    · rw [decide_eq_true hk,cond_true] at h
      cases h
      rw [hk]; rfl
    · rw [decide_eq_false hk,cond_false] at h
      cases hp:pidx r k with
      | none=>rw [hp] at h; cases h
      | some q =>
        rw [hp] at h
        simp only [Option.map_some,Option.some.injEq,Prod.mk.injEq] at h
        obtain ⟨rfl,h2⟩:=h
        obtain ⟨q1,q2,q3⟩:=q
        simp only [Prod.mk.injEq] at h2
        obtain ⟨rfl,rfl⟩:=h2
        exact pidx_get r k q1 _ _ hp
theorem pidx_set:∀ (es:List (κ×β×Nat)) (k:κ) (j:Nat) (v:β) (b:Nat),pidx es k = some (j,v,b)→∀ (v':β) (b':Nat),pidx (es.set j (k,v',b')) k = some (j,v',b')∧∀ x,x≠k→(pidx (es.set j (k,v',b')) x).map (·.2.1) = (pidx es x).map (·.2.1)
  | [],_,_,_,_,h=>by cases h
  | (a,u,c) :: r,k,j,v,b,h=>by
    intro v' b'
    unfold pidx at h
    by_cases hk:k = a
    · rw [decide_eq_true hk,cond_true] at h
      cases h
      refine ⟨by simp [pidx],fun x hx=>?_⟩
      have:¬ x = a:=by rw [←hk]; exact hx
      simp only [List.set_cons_zero,pidx,hx,this,decide_false,cond_false]
    · rw [decide_eq_false hk,cond_false] at h
      cases hp:pidx r k with
      | none=>rw [hp] at h; cases h
      | some q =>
        rw [hp] at h
        obtain ⟨q1,q2,q3⟩:=q
        simp only [Option.map_some,Option.some.injEq,Prod.mk.injEq] at h
        obtain ⟨rfl,rfl,rfl⟩:=h
        obtain ⟨g1,g2⟩:=pidx_set r k q1 _ _ hp v' b'
        refine ⟨?_,fun x hx=>?_⟩
        · simp only [List.set_cons_succ,pidx,hk,decide_false,cond_false,g1,Option.map_some]
        · have:=g2 x hx
          simp only [List.set_cons_succ,pidx]
          cases decide (x = a)
          · simp only [cond_false]
            rw [Option.map_map,Option.map_map]
            exact this
          · rfl
theorem pidx_app:∀ (es:List (κ×β×Nat)) (k:κ),pidx es k = none→∀ (v:β) (b:Nat),pidx (es ++ [(k,v,b)]) k = some (es.length,v,b)∧∀ x,x≠k→(pidx (es ++ [(k,v,b)]) x).map (·.2.1) = (pidx es x).map (·.2.1)
  | [],k,_,v,b=>⟨by simp [pidx],fun x hx=>by simp [pidx,hx]⟩
  | (a,u,c) :: r,k,h,v,b=>by
    unfold pidx at h
    by_cases hk:k = a
    · rw [decide_eq_true hk,cond_true] at h; cases h
    · rw [decide_eq_false hk,cond_false] at h
      have hp:pidx r k = none:=by
        cases hp:pidx r k with
        | none=>rfl
        | some q=>rw [hp] at h; cases h
      obtain ⟨g1,g2⟩:=pidx_app r k hp v b
      refine ⟨?_,fun x hx=>?_⟩
      · simp only [List.cons_append,pidx,hk,decide_false,cond_false,g1,Option.map_some,List.length_cons]
      · have:=g2 x hx
        simp only [List.cons_append,pidx]
        cases decide (x = a)
        · simp only [cond_false]
          rw [Option.map_map,Option.map_map]
          exact this
        · rfl
theorem pl_put (m:PM κ β) (k:κ) (v:β) (x:κ):pl (pput m k v) x = if x = k then some v else pl m x:=by
  unfold pput pl
  split
  · rename_i j u b h
    obtain ⟨g1,g2⟩:=pidx_set m.es k j u b h v b
    by_cases hx:x = k
    · subst hx
      rw [if_pos rfl]
      show (pidx (m.es.set j (x,v,b)) x).map (·.2.1) = _
      rw [g1]; rfl
    · rw [if_neg hx]; exact g2 x hx
  · rename_i h
    obtain ⟨g1,g2⟩:=pidx_app m.es k h v m.n
    by_cases hx:x = k
    · subst hx
      rw [if_pos rfl]
      show (pidx (m.es ++ [(x,v,m.n)]) x).map (·.2.1) = _
      rw [g1]; rfl
    · rw [if_neg hx]; exact g2 x hx
structure PW (m:PM κ β):Prop where
  old:∀ e∈m.es,e.2.2 < m.n
  nd:(m.es.map (·.2.2)).Nodup
theorem PW.nil:PW (PM.nil:PM κ β):=⟨fun e h=>(List.not_mem_nil h).elim,List.nodup_nil⟩
theorem stamps_set {es:List (κ×β×Nat)} {j:Nat} {k:κ} {v v':β} {b:Nat} {k':κ} (h:es[j]? = some (k,v,b)):(es.set j (k',v',b)).map (·.2.2) = es.map (·.2.2):=by
  rw [List.map_set]
  apply List.ext_getElem?
  intro i
  rw [List.getElem?_set]
  split
  · rename_i hi
    subst hi
    rw [List.getElem?_map,h]
    have:j < es.length:=by
      by_cases hj:j < es.length
      · exact hj
      · rw [List.getElem?_eq_none (by omega)] at h; cases h
    rw [List.length_map,if_pos this]
    rfl
  · rfl
theorem mem_set_of {α:Type} {es:List α} {j:Nat} {a e:α} (h:e∈es.set j a):e = a∨e∈es:=by
  rcases List.mem_or_eq_of_mem_set h with h | h
  · exact .inr h
  · exact .inl h
theorem PW.put {m:PM κ β} (hm:PW m) (k:κ) (v:β):PW (pput m k v):=by
  unfold pput
  split
  · rename_i j u b h
    have hg:=pidx_get m.es k j u b h
    refine ⟨fun e he=>?_,?_⟩
    · rcases mem_set_of he with rfl | he
      · exact hm.old (k,u,b) (List.mem_of_getElem? hg)
      · exact hm.old e he
    · show ((m.es.set j (k,v,b)).map (·.2.2)).Nodup
      rw [stamps_set hg]; exact hm.nd
  · rename_i h
    refine ⟨fun e he=>?_,?_⟩
    · show e.2.2 < m.n + 1
      rcases List.mem_append.1 he with he | he
      · have:=hm.old e he; omega
      · rw [List.mem_singleton.1 he]; show m.n < m.n + 1; omega
    · show ((m.es ++ [(k,v,m.n)]).map (·.2.2)).Nodup
      rw [List.map_append,List.nodup_append]
      refine ⟨hm.nd,by simp,fun a ha b hb=>?_⟩
      obtain ⟨e,he,rfl⟩:=List.mem_map.1 ha
      have:=hm.old e he
      simp only [List.map_cons,List.map_nil,List.mem_singleton] at hb
      omega
theorem pbx_of:∀ (es:List (κ×β×Nat)) (j:Nat) (e:κ×β×Nat),es[j]? = some e→(es.map (·.2.2)).Nodup→pbx es e.2.2 = some j
  | [],j,e,h,_=>by cases h
  | a :: r,0,e,h,_=>by
    cases h
    simp [pbx]
  | a :: r,j + 1,e,h,hn=>by
    have hr:r[j]? = some e:=h
    rw [List.map_cons,List.nodup_cons] at hn
    have hne:a.2.2≠e.2.2:=fun hh=>hn.1 (hh ▸ List.mem_map.2 ⟨e,List.mem_of_getElem? hr,rfl⟩)
    have hb:Nat.beq a.2.2 e.2.2 = false:=by
      cases hq:Nat.beq a.2.2 e.2.2 with
      | false=>rfl
      | true=>exact absurd (Nat.eq_of_beq_eq_true hq) hne
    simp only [pbx,hb,cond_false,pbx_of r j e hr hn.2,Option.map_some]
theorem pstore_at {m:PM κ β} (hm:PW m) (k:κ) (v w:β):∃ m',pstore (pput m k v) (pstamp m k) w = some m'∧PW m'∧∀ x,pl m' x = if x = k then some w else pl m x:=by
  have hp:=hm.put k v
  have key:∃ j,pidx (pput m k v).es k = some (j,v,pstamp m k):=by
    unfold pput pstamp
    cases h:pidx m.es k with
    | none=>exact ⟨_,(pidx_app m.es k h v m.n).1⟩
    | some q =>
      obtain ⟨j,u,b⟩:=q
      exact ⟨_,(pidx_set m.es k j u b h v b).1⟩
  obtain ⟨j,hj⟩:=key
  have hg:=pidx_get _ _ _ _ _ hj
  refine ⟨⟨(pput m k v).es.set j (k,w,pstamp m k),(pput m k v).n⟩,?_,⟨fun e he=>?_,?_⟩,fun x=>?_⟩
  · unfold pstore
    rw [show pbx (pput m k v).es (pstamp m k) = some j from pbx_of _ j _ hg hp.nd]
    show ((pput m k v).es[j]?).map _ = _
    rw [hg]; rfl
  · rcases mem_set_of he with rfl | he
    · exact hp.old (k,v,pstamp m k) (List.mem_of_getElem? hg)
    · exact hp.old e he
  · show (((pput m k v).es.set j (k,w,pstamp m k)).map (·.2.2)).Nodup
    rw [stamps_set hg]; exact hp.nd
  · have h1:=pl_put m k v x
    obtain ⟨g1,g2⟩:=pidx_set (pput m k v).es k j v (pstamp m k) hj w (pstamp m k)
    show (pidx ((pput m k v).es.set j (k,w,pstamp m k)) x).map (·.2.1) = _
    by_cases hx:x = k
    · subst hx
      rw [if_pos rfl,g1]; rfl
    · rw [if_neg hx] at h1 ⊢
      rw [g2 x hx]
      exact h1
end
theorem countP_lt {α:Type} (p q:α→Bool):∀ (l:List α) (x:α),(∀ y,q y = true→p y = true)→x∈l→p x = true→q x = false→l.countP q < l.countP p
  | a :: r,x,h,hx,hp,hq=>by
    rw [List.countP_cons,List.countP_cons]
    have hle:r.countP q≤r.countP p:=List.countP_mono_left fun y _ hy=>h y hy
    rcases List.mem_cons.1 hx with rfl | hx
    · simp only [hp,hq,if_true,Bool.false_eq_true,if_false]; omega
    · have:=countP_lt p q r x h hx hp hq
      have:(if q a = true then 1 else 0)≤(if p a = true then 1 else 0):=by
        by_cases hh:q a = true
        · rw [if_pos hh,if_pos (h a hh)]; exact Nat.le_refl _
        · rw [if_neg hh]; omega
      omega
end Go.Proofs.Abs
end
section
namespace Go.Proofs.Abs
open Go
set_option linter.unusedVariables false
set_option maxRecDepth 100000
theorem rd_mem {α:Type} [Inhabited α] {xs:List α} {i:Int} (h0:0≤i) (h1:i < ((xs.length:Nat):Int)):rd xs i∈xs:=getD_mem (i:=i.toNat) (by omega)
theorem find_l (fs:List TField) (q:List UInt8) (hb:fs.length≤1000000):∀ (j K:Nat) (i:Int),((fs.length:Nat):Int) - i≤(j:Int)→0≤i→j + 1≤K→∃ z,f290_l12 fs q K i = some z∧(z = .b0 ()∨∃ w:Int,z = .r w∧0≤w∧w < ((fs.length:Nat):Int)):=by
  intro j
  induction j with
  | zero =>
    intro K i hj h0 hK
    obtain ⟨K,rfl⟩:∃ j,K = j + 1:=⟨K - 1,by omega⟩
    exact ⟨_,by rw [f290_l12,cdn (by omega)],.inl rfl⟩
  | succ j ih =>
    intro K i hj h0 hK
    obtain ⟨K,rfl⟩:∃ j,K = j + 1:=⟨K - 1,by omega⟩
    rw [f290_l12]
    by_cases c:i < ((fs.length:Nat):Int)
    · rw [cdp c,gdp (by omega),i64w (n:=i + 1) (by omega)]
      unfold f291
      rw [Option.bind_some]
      by_cases c2:(rd fs i).fName = q
      · rw [cdp c2]; exact ⟨_,rfl,.inr ⟨_,rfl,h0,c⟩⟩
      · rw [cdn c2]; exact ih K (i + 1) (by omega) (by omega) (by omega)
    · rw [cdn c]; exact ⟨_,rfl,.inl rfl⟩
theorem find_t (fs:List TField) (q:List UInt8) (K:Nat) (hb:fs.length≤1000000) (hK:1000010≤K):∃ r,f290 K fs q = some r∧(r ≥ 0→r < ((fs.length:Nat):Int)):=by
  unfold f290
  obtain ⟨z,h1,h2⟩:=find_l fs q hb fs.length K 0 (by omega) (by omega) (by omega)
  rw [h1,Option.bind_some]
  rcases h2 with rfl | ⟨w,rfl,_,w2⟩
  · exact ⟨-1,rfl,fun h=>by omega⟩
  · exact ⟨w,rfl,fun _=>w2⟩
theorem names_t (n:List UInt8) (al:List (List UInt8)) (K:Nat) (ha:al.length≤1000000) (hK:10≤K):f259 K [[n],al] = some ([n] ++ al):=by
  obtain ⟨K,rfl⟩:∃ j,K = j + 3:=⟨K - 3,by omega⟩
  unfold f259
  have h1:f259_l16 [[n],al] (K + 3) 0 0 = some (.b0 (1 + ((al.length:Nat):Int))):=by
    rw [f259_l16,cdp (by simp),gdp (by simp)]
    rw [show rd [[n],al] 0 = [n] from rfl,show ((([n]:List (List UInt8)).length:Nat):Int) = 1 from rfl,show IntKind.i64.wrap (0 + 1) = 1 by decide,cdn (by decide)]
    rw [f259_l16,cdp (by simp),gdp (by simp)]
    rw [show rd [[n],al] 1 = al from rfl,i64w (n:=1 + ((al.length:Nat):Int)) (by omega),cdn (by omega),show IntKind.i64.wrap (1 + 1) = 2 by decide]
    rw [f259_l16,cdn (by simp)]
  rw [h1,Option.bind_some]
  show f259_j57 (K + 3) [[n],al] (1 + ((al.length:Nat):Int)) = _
  unfold f259_j57 f260
  rw [gdp (by omega),Option.bind_some]
  have h2:f259_l70 [[n],al] (K + 3) [] 0 = some (.b0 ([n] ++ al)):=by
    rw [f259_l70,cdp (by simp),gdp (by simp)]
    rw [show rd [[n],al] 0 = [n] from rfl,show IntKind.i64.wrap (0 + 1) = 1 by decide,gdp (by simp)]
    rw [f259_l70,cdp (by simp),gdp (by simp)]
    rw [show rd [[n],al] 1 = al from rfl,show IntKind.i64.wrap (1 + 1) = 2 by decide,gdp (by simp; omega)]
    rw [f259_l70,cdn (by simp)]
    rfl
  rw [h2,Option.bind_some]
theorem field_l (r:List (List UInt8)) (x:TNode) (hr:r.length≤1000002) (hx:x.fFields.length≤1000000):∀ (j K:Nat) (i:Int),((r.length:Nat):Int) - i≤(j:Int)→0≤i→j + 1000011≤K→∃ z,f258_l20 r x K i = some z∧(z = .b0 ()∨∃ w:Int,z = .r w∧w < ((x.fFields.length:Nat):Int)):=by
  intro j
  induction j with
  | zero =>
    intro K i hj h0 hK
    obtain ⟨K,rfl⟩:∃ j,K = j + 1:=⟨K - 1,by omega⟩
    exact ⟨_,by rw [f258_l20,cdn (by omega)],.inl rfl⟩
  | succ j ih =>
    intro K i hj h0 hK
    obtain ⟨K,rfl⟩:∃ j,K = j + 1:=⟨K - 1,by omega⟩
    rw [f258_l20]
    by_cases c:i < ((r.length:Nat):Int)
    · obtain ⟨w,g1,g2⟩:=find_t x.fFields (rd r i) K hx (by omega)
      rw [cdp c,gdp (by omega),i64w (n:=i + 1) (by omega),g1,Option.bind_some]
      by_cases c2:w ≥ 0
      · rw [cdp c2]; exact ⟨_,rfl,.inr ⟨_,rfl,g2 c2⟩⟩
      · rw [cdn c2]; exact ih K (i + 1) (by omega) (by omega) (by omega)
    · rw [cdn c]; exact ⟨_,rfl,.inl rfl⟩
theorem field_t (x:TNode) (f:TField) (K:Nat) (hx:x.fFields.length≤1000000) (hf:f.fAliases.length≤1000000) (hK:2000100≤K):∃ r,f258 K x f = some r∧(0≤r→r < ((x.fFields.length:Nat):Int)):=by
  unfold f258
  rw [names_t f.fName f.fAliases K hf (by omega),Option.bind_some]
  obtain ⟨z,h1,h2⟩:=field_l ([f.fName] ++ f.fAliases) x (by simp; omega) hx ([f.fName] ++ f.fAliases).length K 0 (by omega) (by omega) (by simp; omega)
  rw [h1,Option.bind_some]
  rcases h2 with rfl | ⟨w,rfl,w2⟩
  · exact ⟨-1,rfl,fun h=>by omega⟩
  · exact ⟨w,rfl,fun _=>w2⟩
def PIn (nw nr:Nat) (p:Tcheck_pair):Prop:=(0≤p.fi∧p.fi < (nw:Int))∧0≤p.fk∧p.fk < (nr:Int)
def LeadT (nw nr:Nat) (o:Option ((List Tcheck_pair)×Bool)):Prop:=∃ ls b,o = some (ls,b)∧ls.length≤1000000∧∀ p∈ls,PIn nw nr p
theorem fields_l {ns ms:List TNode} {x y:TNode} (hx:NodeOk ns.length x) (hy:NodeOk ms.length y):∀ (q K:Nat) (ls:List Tcheck_pair) (b:Bool) (n:Int),((y.fFields.length:Nat):Int) - n≤(q:Int)→0≤n→(ls.length:Int)≤n→n≤((y.fFields.length:Nat):Int)→(∀ p∈ls,PIn ns.length ms.length p)→q + 2000101≤K →
    ∃ ls' b',f495_l27 y x K ls b n = some (.b0 (ls',b'))∧ls'.length≤y.fFields.length∧∀ p∈ls',PIn ns.length ms.length p:=by
  have l1:=hx.lens
  have l2:=hy.lens
  intro q
  induction q with
  | zero =>
    intro K ls b n hq h0 hl hn hp hK
    obtain ⟨K,rfl⟩:∃ j,K = j + 1:=⟨K - 1,by omega⟩
    exact ⟨ls,b,by rw [f495_l27,cdn (by omega)],by omega,hp⟩
  | succ q ih =>
    intro K ls b n hq h0 hl hn hp hK
    obtain ⟨K,rfl⟩:∃ j,K = j + 1:=⟨K - 1,by omega⟩
    rw [f495_l27]
    by_cases c:n < ((y.fFields.length:Nat):Int)
    · have hy2:=hy.fds _ (rd_mem h0 c)
      obtain ⟨r,g1,g2⟩:=field_t x (rd y.fFields n) K l1.2.1 hy2.2 (by omega)
      rw [cdp c,gdp ⟨h0,c⟩,g1,Option.bind_some,i64w (n:=n + 1) (by omega)]
      by_cases c2:r < 0
      · rw [cdp c2]
        cases b with
        | true=>exact ih K ls _ (n + 1) (by omega) (by omega) (by omega) (by omega) hp (by omega)
        | false=>exact ih K ls _ (n + 1) (by omega) (by omega) (by omega) (by omega) hp (by omega)
      · have hr:=g2 (by omega)
        have hx2:=hx.fds _ (rd_mem (i:=r) (by omega) hr)
        rw [cdn c2,gdp (by omega),gdp (by simp only [List.length_singleton]; omega)]
        refine ih K _ b (n + 1) (by omega) (by omega) (by rw [List.length_append,List.length_singleton]; omega) (by omega) (fun p hp'=>?_) (by omega)
        rcases List.mem_append.1 hp' with h | h
        · exact hp p h
        · rw [List.mem_singleton.1 h]
          exact ⟨hx2.1,hy2.1⟩
    · rw [cdn c]
      exact ⟨ls,b,rfl,by omega,hp⟩
theorem fields_t {ns ms:List TNode} {x y:TNode} (hx:NodeOk ns.length x) (hy:NodeOk ms.length y) (K:Nat) (hK:3000200≤K):LeadT ns.length ms.length (f495 K x y):=by
  have l2:=hy.lens
  unfold f495
  obtain ⟨ls,b,h1,h2,h3⟩:=fields_l hx hy y.fFields.length K [] true 0 (by omega) (by omega) (by simp) (by omega) (fun p h=>(List.not_mem_nil h).elim) (by omega)
  rw [h1,Option.bind_some]
  exact ⟨ls,b,rfl,by omega,h3⟩
theorem unknown_l (a0 ss:List (List UInt8)) (k:Int) (nm:List UInt8) (al:List (List UInt8)) (fs:List TField) (hs:Bool) (df:List UInt8) (it:Int) (br:List Int) (sz:Int) (h1:a0.length≤1000000) (h2:ss.length≤1000000) :
    ∀ (q K:Nat) (n:Int),((a0.length:Nat):Int) - n≤(q:Int)→0≤n→q + 1000011≤K→∃ z,f493_l12 a0 k nm al fs ss hs df it br sz K n = some z∧(z = .b0 ()∨∃ w:Int,z = .r w):=by
  intro q
  induction q with
  | zero =>
    intro K n hq h0 hK
    obtain ⟨K,rfl⟩:∃ j,K = j + 1:=⟨K - 1,by omega⟩
    exact ⟨_,by rw [f493_l12,cdn (by omega)],.inl rfl⟩
  | succ q ih =>
    intro K n hq h0 hK
    obtain ⟨K,rfl⟩:∃ j,K = j + 1:=⟨K - 1,by omega⟩
    rw [f493_l12]
    by_cases c:n < ((a0.length:Nat):Int)
    · obtain ⟨w,hw⟩:=holds_t ss (rd a0 n) K h2 (by omega)
      unfold f494
      rw [cdp c,gdp (by omega),hw,Option.bind_some,Option.bind_some,i64w (n:=n + 1) (by omega)]
      cases w with
      | true=>exact ih K (n + 1) (by omega) (by omega) (by omega)
      | false=>exact ⟨_,rfl,.inr ⟨_,rfl⟩⟩
    · rw [cdn c]; exact ⟨_,rfl,.inl rfl⟩
theorem unknown_t (a0 ss:List (List UInt8)) (k:Int) (nm:List UInt8) (al:List (List UInt8)) (fs:List TField) (hs:Bool) (df:List UInt8) (it:Int) (br:List Int) (sz:Int) (K:Nat) (h1:a0.length≤1000000) (h2:ss.length≤1000000) (hK:2000020≤K) :
    ∃ r,f492 K a0 k nm al fs ss hs df it br sz = some r:=by
  unfold f492 f493
  obtain ⟨z,g1,g2⟩:=unknown_l a0 ss k nm al fs hs df it br sz h1 h2 a0.length K 0 (by omega) (by omega) (by omega)
  rw [g1,Option.bind_some]
  rcases g2 with rfl | ⟨w,rfl⟩
  · exact ⟨_,rfl⟩
  · exact ⟨_,rfl⟩
theorem unions_l {ns ms:List TNode} (p:Tcheck_pair) (hp:PIn ns.length ms.length p) (hx:NodeOk ns.length (rd ns p.fi)):∀ (q K:Nat) (ls:List Tcheck_pair) (n:Int),(((rd ns p.fi).fBranches.length:Nat):Int) - n≤(q:Int)→0≤n→(ls.length:Int)≤n→n≤(((rd ns p.fi).fBranches.length:Nat):Int)→(∀ p∈ls,PIn ns.length ms.length p)→q + 1≤K →
    ∃ ls',f491_l52 ns p K ls n = some (.b0 ls')∧ls'.length≤(rd ns p.fi).fBranches.length∧∀ p∈ls',PIn ns.length ms.length p:=by
  have l1:=hx.lens
  intro q
  induction q with
  | zero =>
    intro K ls n hq h0 hl hn hls hK
    obtain ⟨K,rfl⟩:∃ j,K = j + 1:=⟨K - 1,by omega⟩
    exact ⟨ls,by rw [f491_l52,cdn (by omega)],by omega,hls⟩
  | succ q ih =>
    intro K ls n hq h0 hl hn hls hK
    obtain ⟨K,rfl⟩:∃ j,K = j + 1:=⟨K - 1,by omega⟩
    rw [f491_l52]
    by_cases c:n < (((rd ns p.fi).fBranches.length:Nat):Int)
    · have hb:=hx.brs _ (rd_mem h0 c)
      rw [cdp c,gdp ⟨h0,c⟩,gdp (by simp only [List.length_singleton]; omega),i64w (n:=n + 1) (by omega)]
      refine ih K _ (n + 1) (by omega) (by omega) (by rw [List.length_append,List.length_singleton]; omega) (by omega) (fun p' hp'=>?_) (by omega)
      rcases List.mem_append.1 hp' with h | h
      · exact hls p' h
      · rw [List.mem_singleton.1 h]
        exact ⟨hb,hp.2⟩
    · rw [cdn c]
      exact ⟨ls,rfl,by omega,hls⟩
theorem lead_t {ns ms:List TNode} (hn:Inv ns) (hm:Inv ms) (al:List Bool) (od:List Tcheck_pair) (ld:PM Tcheck_pair (List Tcheck_pair)) (lo:PM Tcheck_pair Int) (p:Tcheck_pair) (hp:PIn ns.length ms.length p) (K:Nat) (hK:3100000≤K) :
    LeadT ns.length ms.length (f491 K ns ms al od ld lo p):=by
  have hx:NodeOk ns.length (rd ns p.fi):=hn.get (i:=p.fi.toNat) (by have:=hp.1; omega)
  have hy:NodeOk ms.length (rd ms p.fk):=hm.get (i:=p.fk.toNat) (by have:=hp.2; omega)
  have l1:=hx.lens
  have l2:=hy.lens
  have non:∀ b,LeadT ns.length ms.length (some (([]:List Tcheck_pair),b)):=fun b=>⟨[],b,rfl,by simp,fun p h=>(List.not_mem_nil h).elim⟩
  have one:∀ q b,PIn ns.length ms.length q→LeadT ns.length ms.length (some ([q],b)):=fun q b h=>⟨[q],b,rfl,by simp,fun p hp=>by rw [List.mem_singleton.1 hp]; exact h⟩
  have cd:∀ {b:Bool} {x y:Option ((List Tcheck_pair)×Bool)},LeadT ns.length ms.length x→LeadT ns.length ms.length y→LeadT ns.length ms.length (cond b x y):=fun {b} {x} {y} h1 h2=>by cases b <;> assumption
  unfold f491
  rw [gdp hp.1,gdp hp.2]
  refine cd ?_ (cd ?_ ?_)
  · obtain ⟨ls,h1,h2,h3⟩:=unions_l p hp hx (rd ns p.fi).fBranches.length K [] 0 (by omega) (by omega) (by simp) (by omega) (fun p h=>(List.not_mem_nil h).elim) (by omega)
    rw [h1,Option.bind_some]
    exact ⟨ls,true,rfl,by omega,h3⟩
  · obtain ⟨r,h1,h2⟩:=branch_t hn hm K p.fi p.fk (by omega)
    rw [h1,Option.bind_some]
    by_cases c:r < 0
    · rw [cdp c]; exact non _
    · have:=h2 (by omega)
      rw [cdn c,gdp (by omega)]
      exact one _ _ ⟨hp.1,hy.brs _ (rd_mem (by omega) this)⟩
  · obtain ⟨r,h1⟩:=types_t hn hm K p.fi p.fk (by omega)
    rw [h1,Option.bind_some]
    have j213:∀ b,LeadT ns.length ms.length (f491_j213 K ns p ms b):=by
      intro b
      unfold f491_j213
      refine cd (one _ _ ⟨hx.items,hy.items⟩) (cd ?_ (non _))
      obtain ⟨ls,b,g1,g2,g3⟩:=fields_t hx hy K (by omega)
      rw [g1,Option.bind_some]
      exact ⟨ls,b,rfl,g2,g3⟩
    refine cd (non _) (cd (cd (non _) ?_) (cd (j213 _) (j213 _)))
    obtain ⟨w,hw⟩:=unknown_t ((rd ns p.fi).fSymbols) ((rd ms p.fk).fSymbols) ((rd ms p.fk).fKind) ((rd ms p.fk).fName) ((rd ms p.fk).fAliases) ((rd ms p.fk).fFields) ((rd ms p.fk).fHas) ((rd ms p.fk).fDefault) ((rd ms p.fk).fItems) ((rd ms p.fk).fBranches) ((rd ms p.fk).fSize) K l1.2.2.1 l2.2.2.1 (by omega)
    rw [hw,Option.bind_some]
    exact non _
end Go.Proofs.Abs
end
section
namespace Go.Proofs.Abs
open Go
set_option linter.unusedVariables false
set_option maxRecDepth 100000
abbrev LD:=PM Tcheck_pair (List Tcheck_pair)
abbrev LO:=PM Tcheck_pair Int
def LB (ld:LD):Prop:=∀ p v,pl ld p = some v→v.length≤1000000
def free (nw nr:Nat) (ld:LD):Nat:=(List.range (nw * nr)).countP fun t=>!phas ld ⟨((t / nr:Nat):Int),((t % nr:Nat):Int)⟩
theorem LB.put {ld:LD} (h:LB ld) (p:Tcheck_pair) (v:List Tcheck_pair) (hv:v.length≤1000000):LB (pput ld p v):=by
  intro q u hq
  rw [pl_put] at hq
  by_cases hp:q = p
  · rw [if_pos hp] at hq; cases hq; exact hv
  · rw [if_neg hp] at hq; exact h q u hq
theorem free_put {nw nr:Nat} {ld:LD} {p:Tcheck_pair} (hp:PIn nw nr p) (hn:phas ld p = false) (v w:List Tcheck_pair):free nw nr (pput (pput ld p v) p w) + 1≤free nw nr ld:=by
  obtain ⟨⟨a1,a2⟩,b1,b2⟩:=hp
  have hr:0 < nr:=by omega
  have hlt:p.fi.toNat * nr + p.fk.toNat < nw * nr:=by
    have h1:(p.fi.toNat + 1) * nr≤nw * nr:=Nat.mul_le_mul_right nr (by omega)
    rw [Nat.add_mul,Nat.one_mul] at h1
    omega
  have hd:(p.fi.toNat * nr + p.fk.toNat) / nr = p.fi.toNat:=by
    rw [Nat.mul_comm,Nat.mul_add_div hr,Nat.div_eq_of_lt (by omega),Nat.add_zero]
  have hm:(p.fi.toNat * nr + p.fk.toNat) % nr = p.fk.toNat:=by
    rw [Nat.mul_comm,Nat.mul_add_mod,Nat.mod_eq_of_lt (by omega)]
  have hpe:(⟨(((p.fi.toNat * nr + p.fk.toNat) / nr:Nat):Int),(((p.fi.toNat * nr + p.fk.toNat) % nr:Nat):Int)⟩:Tcheck_pair) = p:=by
    rw [hd,hm,Int.toNat_of_nonneg a1,Int.toNat_of_nonneg b1]
  refine countP_lt _ _ _ (p.fi.toNat * nr + p.fk.toNat) (fun t ht=>?_) (List.mem_range.2 hlt) ?_ ?_
  · rw [phas_pl,pl_put,pl_put] at ht
    rw [phas_pl]
    split at ht
    · simp at ht
    · exact ht
  · rw [hpe,hn]; rfl
  · rw [hpe,phas_pl,pl_put,if_pos rfl]; rfl
def AskT (nw nr C F:Nat) (o:Option ((List Tcheck_pair)×LD×LO)):Prop:=∃ od ld lo,o = some (od,ld,lo)∧PW lo∧LB ld∧od.length + free nw nr ld≤C∧free nw nr ld≤F
def RcA (ns ms:List TNode) (al:List Bool) (h:Nat) (rc:Y489v2):Prop:=∀ C od ld lo p,C≤100000→PIn ns.length ms.length p→PW lo→LB ld→od.length + free ns.length ms.length ld≤C→free ns.length ms.length ld≤h→AskT ns.length ms.length C (free ns.length ms.length ld) (rc ns ms al od ld lo p)
section
variable {ns ms:List TNode} {al:List Bool}
theorem asks_l (rc:Y489v2) (h:Nat) (hrc:RcA ns ms al h rc) (r:(List Tcheck_pair)×Bool) (hl:r.1.length≤1000000) (hr:∀ p∈r.1,PIn ns.length ms.length p) (C:Nat) (hC:C≤100000) :
    ∀ (q K:Nat) (n:Int) (od:List Tcheck_pair) (ld:LD) (lo:LO),((r.1.length:Nat):Int) - n≤(q:Int)→0≤n→PW lo→LB ld→od.length + free ns.length ms.length ld≤C→free ns.length ms.length ld≤h→q + 1≤K →
    ∃ od' ld' lo',f489v2_l129 r rc ns ms al K n od ld lo = some (.b0 (od',ld',lo'))∧PW lo'∧LB ld'∧od'.length + free ns.length ms.length ld'≤C∧free ns.length ms.length ld'≤free ns.length ms.length ld:=by
  intro q
  induction q with
  | zero =>
    intro K n od ld lo hq h0 h1 h2 h3 h4 hK
    obtain ⟨K,rfl⟩:∃ j,K = j + 1:=⟨K - 1,by omega⟩
    exact ⟨od,ld,lo,by rw [f489v2_l129,cdn (by omega)],h1,h2,h3,Nat.le_refl _⟩
  | succ q ih =>
    intro K n od ld lo hq h0 h1 h2 h3 h4 hK
    obtain ⟨K,rfl⟩:∃ j,K = j + 1:=⟨K - 1,by omega⟩
    rw [f489v2_l129]
    by_cases c:n < ((r.1.length:Nat):Int)
    · obtain ⟨od',ld',lo',g1,g2,g3,g4,g5⟩:=hrc C od ld lo (rd r.1 n) hC (hr _ (rd_mem h0 c)) h1 h2 h3 h4
      rw [cdp c,gdp ⟨h0,c⟩,g1,Option.bind_some,i64w (n:=n + 1) (by omega)]
      obtain ⟨od2,ld2,lo2,e1,e2,e3,e4,e5⟩:=ih K (n + 1) od' ld' lo' (by omega) (by omega) g2 g3 g4 (by omega) (by omega)
      exact ⟨od2,ld2,lo2,e1,e2,e3,e4,by omega⟩
    · rw [cdn c]
      exact ⟨od,ld,lo,rfl,h1,h2,h3,Nat.le_refl _⟩
theorem alive_t (hal:al.length = ns.length) (K:Nat) (od:List Tcheck_pair) (ld:LD) (lo:LO) (p:Tcheck_pair):∃ b,f490v2 K ns ms al od ld lo p = some b:=by
  unfold f490v2
  exact tk (fun h1=>tk (fun h2=>⟨_,by rw [gdp ⟨h1,h2⟩]⟩) fun _=>⟨_,rfl⟩) fun _=>⟨_,rfl⟩
theorem alive_t2 (hal:al.length = ns.length) (K:Nat) (ld:LD) (lo:LO) (p:Tcheck_pair):∃ b,f490 K ns ms al ld lo p = some b:=by
  unfold f490
  exact tk (fun h1=>tk (fun h2=>⟨_,by rw [gdp ⟨h1,h2⟩]⟩) fun _=>⟨_,rfl⟩) fun _=>⟨_,rfl⟩
theorem ask_s (hn:Inv ns) (hm:Inv ms) (hal:al.length = ns.length) (h:Nat) (rc:Y489v2) (hrc:∀ h',h' + 1≤h→RcA ns ms al h' rc) (K:Nat) (hK:3100000≤K):RcA ns ms al h (fun a0 a1 a2 a3 a4 a5 a6=>f489v2_s rc K a0 a1 a2 a3 a4 a5 a6):=by
  intro C od ld lo p hC hp hw hb hf hh
  have same:AskT ns.length ms.length C (free ns.length ms.length ld) (some (od,ld,lo)):=⟨od,ld,lo,rfl,hw,hb,hf,Nat.le_refl _⟩
  show AskT _ _ _ _ (f489v2_s rc K ns ms al od ld lo p)
  unfold f489v2_s
  cases hph:phas ld p with
  | true=>exact same
  | false =>
    obtain ⟨b,hb2⟩:=alive_t hal K od ld lo p (ms:=ms)
    rw [cond_false,hb2,Option.bind_some]
    cases b with
    | false=>exact same
    | true =>
      rw [Bool.not_true,cond_false,gdp (by simp only [List.length_singleton]; omega),cdn (by have:=hp.2; omega),decide_eq_false (by have:=hp.2; omega)]
      unfold f489v2_j74
      rw [cond_false]
      obtain ⟨ls,b,g1,g2,g3⟩:=lead_t hn hm al (od ++ [p]) (pput ld p []) lo p hp K hK
      rw [g1,Option.bind_some]
      have hfp:=free_put hp hph [] ls
      have j113:∀ lo',PW lo'→AskT ns.length ms.length C (free ns.length ms.length ld) (f489v2_j113 K (ls,b) rc ns ms al od p ld lo'):=by
        intro lo' hw'
        unfold f489v2_j113
        obtain ⟨od2,ld2,lo2,e1,e2,e3,e4,e5⟩:=asks_l rc (free ns.length ms.length (pput (pput ld p []) p ls)) (hrc _ (by omega)) (ls,b) g2 g3 C hC ls.length K 0 (od ++ [p]) (pput (pput ld p []) p ls) lo' (by simp) (by omega) hw' ((hb.put p [] (by simp)).put p ls g2) (by rw [List.length_append,List.length_singleton]; omega) (Nat.le_refl _) (by omega)
        rw [e1,Option.bind_some]
        exact ⟨od2,ld2,lo2,rfl,e2,e3,e4,by omega⟩
      show AskT ns.length ms.length C (free ns.length ms.length ld) (cond (!b) _ _)
      cases b with
      | true=>exact j113 lo hw
      | false=>exact j113 _ (hw.put p 1)
theorem ask_h (hn:Inv ns) (hm:Inv ms) (hal:al.length = ns.length):∀ (h K:Nat),h + 3100001≤K→RcA ns ms al h (f489v2 K)
  | 0,K,hK=>by
    obtain ⟨K,rfl⟩:∃ j,K = j + 1:=⟨K - 1,by omega⟩
    intro C od ld lo p h1 h2 h3 h4 h5 h6
    rw [f489v2]
    exact ask_s hn hm hal 0 (f489v2 K) (fun h' hh=>by omega) K (by omega) C od ld lo p h1 h2 h3 h4 h5 h6
  | h + 1,K,hK=>by
    obtain ⟨K,rfl⟩:∃ j,K = j + 1:=⟨K - 1,by omega⟩
    intro C od ld lo p h1 h2 h3 h4 h5 h6
    rw [f489v2]
    exact ask_s hn hm hal (h + 1) (f489v2 K) (fun h' hh C od ld lo p a1 a2 a3 a4 a5 a6=>ask_h hn hm hal h K (by omega) C od ld lo p a1 a2 a3 a4 a5 (by omega)) K (by omega) C od ld lo p h1 h2 h3 h4 h5 h6
theorem asks0_l (hn:Inv ns) (hm:Inv ms) (hal:al.length = ns.length) (r:(List Tcheck_pair)×Bool) (hl:r.1.length≤1000000) (hr:∀ p∈r.1,PIn ns.length ms.length p) (C:Nat) (hC:C≤100000) :
    ∀ (q K:Nat) (n:Int) (od:List Tcheck_pair) (ld:LD) (lo:LO),((r.1.length:Nat):Int) - n≤(q:Int)→0≤n→PW lo→LB ld→od.length + free ns.length ms.length ld≤C→q + 3300000≤K →
    ∃ od' ld' lo',f489_l129 r ns ms al K n od ld lo = some (.b0 (od',ld',lo'))∧PW lo'∧LB ld'∧od'.length + free ns.length ms.length ld'≤C:=by
  intro q
  induction q with
  | zero =>
    intro K n od ld lo hq h0 h1 h2 h3 hK
    obtain ⟨K,rfl⟩:∃ j,K = j + 1:=⟨K - 1,by omega⟩
    exact ⟨od,ld,lo,by rw [f489_l129,cdn (by omega)],h1,h2,h3⟩
  | succ q ih =>
    intro K n od ld lo hq h0 h1 h2 h3 hK
    obtain ⟨K,rfl⟩:∃ j,K = j + 1:=⟨K - 1,by omega⟩
    rw [f489_l129]
    by_cases c:n < ((r.1.length:Nat):Int)
    · obtain ⟨od',ld',lo',g1,g2,g3,g4,g5⟩:=ask_h hn hm hal 100000 K (by omega) C od ld lo (rd r.1 n) hC (hr _ (rd_mem h0 c)) h1 h2 h3 (by omega)
      rw [cdp c,gdp ⟨h0,c⟩,g1,Option.bind_some,i64w (n:=n + 1) (by omega)]
      exact ih K (n + 1) od' ld' lo' (by omega) (by omega) g2 g3 g4 (by omega)
    · rw [cdn c]
      exact ⟨od,ld,lo,rfl,h1,h2,h3⟩
theorem ask_t (hn:Inv ns) (hm:Inv ms) (hal:al.length = ns.length) (p:Tcheck_pair) (hp:PIn ns.length ms.length p) (K:Nat) (hK:4400000≤K) :
    ∃ od ld lo,f489 K ns ms al PM.nil PM.nil p = some (od,ld,lo)∧PW lo∧LB ld∧od.length≤100000:=by
  have l1:=hn.len
  have l2:=hm.len
  have same:∃ od ld lo,(some (([]:List Tcheck_pair),(PM.nil:LD),(PM.nil:LO))) = some (od,ld,lo)∧PW lo∧LB ld∧od.length≤100000:=⟨[],_,_,rfl,PW.nil,(fun p v h=>by cases h),by simp⟩
  have lb0:LB (PM.nil:LD):=fun p v h=>by cases h
  unfold f489
  obtain ⟨b,hb2⟩:=alive_t2 hal K PM.nil PM.nil p (ms:=ms)
  rw [show phas (PM.nil:LD) p = false from rfl,cond_false,hb2,Option.bind_some]
  cases b with
  | false=>exact same
  | true =>
    rw [Bool.not_true,cond_false,gdp (by simp),cdn (by have:=hp.2; omega),decide_eq_false (by have:=hp.2; omega)]
    unfold f489_j74
    rw [cond_false]
    obtain ⟨ls,b,g1,g2,g3⟩:=lead_t hn hm al [p] (pput PM.nil p []) PM.nil p hp K (by omega)
    rw [g1,Option.bind_some]
    have hfr:free ns.length ms.length (pput (pput (PM.nil:LD) p []) p ls)≤40000:=by
      have h1:free ns.length ms.length (pput (pput (PM.nil:LD) p []) p ls)≤(List.range (ns.length * ms.length)).length:=List.countP_le_length
      rw [List.length_range] at h1
      have:ns.length * ms.length≤200 * 200:=Nat.mul_le_mul l1 l2
      omega
    have j113:∀ lo',PW lo'→∃ od ld lo,f489_j113 K (ls,b) ns ms al p PM.nil lo' = some (od,ld,lo)∧PW lo∧LB ld∧od.length≤100000:=by
      intro lo' hw'
      unfold f489_j113
      obtain ⟨od2,ld2,lo2,e1,e2,e3,e4⟩:=asks0_l hn hm hal (ls,b) g2 g3 50000 (by omega) ls.length K 0 [p] (pput (pput PM.nil p []) p ls) lo' (by simp) (by omega) hw' ((lb0.put p [] (by simp)).put p ls g2) (by rw [List.length_singleton]; omega) (by omega)
      rw [e1,Option.bind_some]
      exact ⟨od2,ld2,lo2,rfl,e2,e3,by omega⟩
    show ∃ od ld lo,cond (!b) _ _ = some (od,ld,lo)∧_
    cases b with
    | true=>exact j113 _ PW.nil
    | false=>exact j113 _ (PW.nil.put p 1)
theorem all_t (hn:Inv ns) (hm:Inv ms) (K:Nat) (hK:4400000≤K):∃ al od ld lo,f383 K ⟨ns⟩ ⟨ms⟩ = some (al,od,ld,lo)∧PW lo∧LB ld∧od.length≤100000:=by
  unfold f383
  obtain ⟨al,h1,h2⟩:=nodes_t hn K (by omega)
  rw [h1,Option.bind_some]
  have none':∃ al' od ld lo,some (al,([]:List Tcheck_pair),(PM.nil:LD),(PM.nil:LO)) = some (al',od,ld,lo)∧PW lo∧LB ld∧od.length≤100000:=⟨al,[],_,_,rfl,PW.nil,(fun p v h=>by cases h),by simp⟩
  by_cases c1:((ns.length:Nat):Int) > 0
  · by_cases c2:((ms.length:Nat):Int) > 0
    · obtain ⟨od,ld,lo,g1,g2,g3,g4⟩:=ask_t hn hm h2 ⟨0,0⟩ ⟨⟨Int.le_refl _,c1⟩,Int.le_refl _,c2⟩ K hK
      show ∃ al' od ld lo,cond (decide (((ns.length:Nat):Int) > 0)) (cond (decide (((ms.length:Nat):Int) > 0)) (Option.bind (f489 K ns ms al PM.nil PM.nil ⟨0,0⟩) _) _) _ = some (al',od,ld,lo)∧_
      rw [cdp c1,cdp c2,g1,Option.bind_some]
      exact ⟨al,od,ld,lo,rfl,g2,g3,g4⟩
    · show ∃ al' od ld lo,cond (decide (((ns.length:Nat):Int) > 0)) (cond (decide (((ms.length:Nat):Int) > 0)) _ _) _ = some (al',od,ld,lo)∧_
      rw [cdp c1,cdn c2]
      exact none'
  · show ∃ al' od ld lo,cond (decide (((ns.length:Nat):Int) > 0)) _ _ = some (al',od,ld,lo)∧_
    rw [cdn c1]
    exact none'
end
abbrev AllT:=(List Bool)×(List Tcheck_pair)×LD×LO
theorem spread_l (r:AllT) (hb:LB r.2.2.1) (p:Int) (lo:LO) (hw:PW lo):∀ (q K:Nat) (n:Int),(((pget r.2.2.1 (rd r.2.1 p) []).length:Nat):Int) - n≤(q:Int)→0≤n→q + 1≤K →
    ∃ z,f382_l111 r p lo K n = some z∧(z = .b0 ()∨∃ m,z = .b1 m∧PW m∧∀ x,pl m x = if x = rd r.2.1 p then some 1 else pl lo x):=by
  have hl:(pget r.2.2.1 (rd r.2.1 p) ([]:List Tcheck_pair)).length≤1000000:=by
    rw [pget_pl]
    cases h:pl r.2.2.1 (rd r.2.1 p) with
    | none=>simp
    | some v=>exact hb _ _ h
  intro q
  induction q with
  | zero =>
    intro K n hq h0 hK
    obtain ⟨K,rfl⟩:∃ j,K = j + 1:=⟨K - 1,by omega⟩
    exact ⟨_,by rw [f382_l111,cdn (by omega)],.inl rfl⟩
  | succ q ih =>
    intro K n hq h0 hK
    obtain ⟨K,rfl⟩:∃ j,K = j + 1:=⟨K - 1,by omega⟩
    rw [f382_l111]
    by_cases c:n < (((pget r.2.2.1 (rd r.2.1 p) ([]:List Tcheck_pair)).length:Nat):Int)
    · rw [cdp c,gdp ⟨h0,c⟩,i64w (n:=n + 1) (by omega)]
      by_cases c2:pget lo (rd (pget r.2.2.1 (rd r.2.1 p) ([]:List Tcheck_pair)) n) (0:Int)≠0
      · obtain ⟨m,g1,g2,g3⟩:=pstore_at hw (rd r.2.1 p) (pget lo (rd r.2.1 p) 0) 1
        rw [cdp c2,g1,Option.bind_some]
        exact ⟨_,rfl,.inr ⟨m,rfl,g2,g3⟩⟩
      · rw [cdn c2]
        exact ih K (n + 1) (by omega) (by omega) (by omega)
    · rw [cdn c]; exact ⟨_,rfl,.inl rfl⟩
def whole (od:List Tcheck_pair) (lo:LO):Nat:=od.countP fun p=>decide (pget lo p 0 = 0)
theorem sweep_l (r:AllT) (hb:LB r.2.2.1) (ho:r.2.1.length≤100000) (W:Nat):∀ (q K:Nat) (fl:Bool) (n:Int) (lo:LO),((r.2.1.length:Nat):Int) - n≤(q:Int)→0≤n→PW lo→whole r.2.1 lo + (if fl then 1 else 0)≤W→q + 1000002≤K →
    ∃ fl' lo',f382_l67 r K fl n lo = some (.b0 (fl',lo'))∧PW lo'∧whole r.2.1 lo' + (if fl' then 1 else 0)≤W:=by
  have hl:∀ p:Tcheck_pair,(pget r.2.2.1 p ([]:List Tcheck_pair)).length≤1000000:=by
    intro p
    rw [pget_pl]
    cases h:pl r.2.2.1 p with
    | none=>simp
    | some v=>exact hb _ _ h
  intro q
  induction q with
  | zero =>
    intro K fl n lo hq h0 hw hW hK
    obtain ⟨K,rfl⟩:∃ j,K = j + 1:=⟨K - 1,by omega⟩
    exact ⟨fl,lo,by rw [f382_l67,cdn (by omega)],hw,hW⟩
  | succ q ih =>
    intro K fl n lo hq h0 hw hW hK
    obtain ⟨K,rfl⟩:∃ j,K = j + 1:=⟨K - 1,by omega⟩
    rw [f382_l67]
    by_cases c:n < ((r.2.1.length:Nat):Int)
    · rw [cdp c,gdp ⟨h0,c⟩,i64w (n:=n + 1) (by omega)]
      by_cases c2:pget lo (rd r.2.1 n) (0:Int)≠0
      · rw [cdp c2]
        exact ih K fl (n + 1) lo (by omega) (by omega) hw hW (by omega)
      · have hz:pget lo (rd r.2.1 n) (0:Int) = 0:=Classical.byContradiction c2
        obtain ⟨z,g1,g2⟩:=spread_l r hb n lo hw (pget r.2.2.1 (rd r.2.1 n) ([]:List Tcheck_pair)).length K 0 (by omega) (by omega) (by have:=hl (rd r.2.1 n); omega)
        rw [cdn c2,g1,Option.bind_some]
        rcases g2 with rfl | ⟨m,rfl,m1,m2⟩
        · exact ih K fl (n + 1) lo (by omega) (by omega) hw hW (by omega)
        · have hlt:whole r.2.1 m < whole r.2.1 lo:=by
            refine countP_lt _ _ _ (rd r.2.1 n) (fun y hy=>?_) (rd_mem h0 c) (decide_eq_true hz) ?_
            · have:=of_decide_eq_true hy
              rw [pget_pl,m2] at this
              refine decide_eq_true ?_
              by_cases hx:y = rd r.2.1 n
              · rw [hx]; exact hz
              · rw [if_neg hx] at this
                rw [pget_pl]; exact this
            · refine decide_eq_false ?_
              rw [pget_pl,m2,if_pos rfl]
              decide
          refine ih K true (n + 1) m (by omega) (by omega) m1 ?_ (by omega)
          simp only [if_true]
          cases fl <;> simp only [if_true,Bool.false_eq_true,if_false] at hW <;> omega
    · rw [cdn c]
      exact ⟨fl,lo,rfl,hw,hW⟩
theorem sweeps_l (r:AllT) (hb:LB r.2.2.1) (ho:r.2.1.length≤100000):∀ (q K:Nat) (fl:Bool) (lo:LO),PW lo→whole r.2.1 lo + (if fl then 1 else 0)≤q→q + 1100010≤K→∃ lo',f382_l40 r K fl lo = some (.b0 lo'):=by
  intro q
  induction q with
  | zero =>
    intro K fl lo hw hW hK
    obtain ⟨K,rfl⟩:∃ j,K = j + 1:=⟨K - 1,by omega⟩
    cases fl with
    | true=>simp only [if_true] at hW; omega
    | false=>exact ⟨lo,by rw [f382_l40]; rfl⟩
  | succ q ih =>
    intro K fl lo hw hW hK
    obtain ⟨K,rfl⟩:∃ j,K = j + 1:=⟨K - 1,by omega⟩
    cases fl with
    | false=>exact ⟨lo,by rw [f382_l40]; rfl⟩
    | true =>
      simp only [if_true] at hW
      obtain ⟨fl',lo',g1,g2,g3⟩:=sweep_l r hb ho (whole r.2.1 lo) r.2.1.length K false 0 lo (by omega) (by omega) hw (by simp) (by omega)
      rw [f382_l40,cond_true,g1,Option.bind_some]
      exact ih K fl' lo' g2 (by omega) (by omega)
theorem reads_t {ns ms:List TNode} (hn:Inv ns) (hm:Inv ms) (K:Nat) (hK:4400000≤K):∃ b,f382 K ⟨ns⟩ ⟨ms⟩ = some b:=by
  unfold f382
  refine tc ⟨_,rfl⟩ (tc ⟨_,rfl⟩ ?_)
  obtain ⟨al,od,ld,lo,h1,h2,h3,h4⟩:=all_t hn hm K hK
  rw [h1,Option.bind_some]
  have hw:whole od lo≤od.length:=List.countP_le_length
  obtain ⟨lo',g⟩:=sweeps_l (al,od,ld,lo) h3 h4 100001 K true lo h2 (by simp only [if_true]; omega) (by omega)
  show ∃ b,Option.bind (f382_l40 (al,od,ld,lo) K true lo) _ = some b
  rw [g,Option.bind_some]
  exact ⟨_,rfl⟩
end Go.Proofs.Abs
end
section
namespace Go.Proofs.Abs
open Go
def Le {α:Type} (o o':Option α):Prop:=∀ r,o = some r→o' = some r
theorem Le.refl {α:Type} (o:Option α):Le o o:=fun _ h=>h
theorem Le.none {α:Type} {o:Option α}:Le none o:=fun _ h=>by cases h
theorem Le.bind {α β:Type} {o o':Option α} {f f':α→Option β} (h:Le o o') (hf:∀ x,Le (f x) (f' x)):Le (o.bind f) (o'.bind f'):=fun r hr=>by
  cases o with
  | none=>cases hr
  | some x =>
    rw [h x rfl]
    exact hf x r hr
theorem Le.cond {α:Type} {b:Bool} {x x' y y':Option α} (hx:Le x x') (hy:Le y y'):Le (_root_.cond b x y) (_root_.cond b x' y'):=by cases b <;> assumption
theorem Le.gd {α:Type} {p:Prop} {d:Decidable p} {x x':Option α} (hx:Le x x'):Le (@Abs.gd α p d x) (@Abs.gd α p d x'):=fun r hr=>by
  unfold Abs.gd at hr ⊢
  split
  · rename_i h; rw [if_pos h] at hr; exact hx r hr
  · rename_i h; rw [if_neg h] at hr; cases hr
theorem Le.lr2 {α β ρ γ:Type} {F F':LR2 α β ρ→Option γ} (h0:∀ x,Le (F (.b0 x)) (F' (.b0 x))) (h1:∀ x,Le (F (.b1 x)) (F' (.b1 x))) (h2:∀ x,Le (F (.r x)) (F' (.r x))):∀ o,Le (F o) (F' o)
  | .b0 x=>h0 x
  | .b1 x=>h1 x
  | .r x=>h2 x
theorem Le.steps {α:Type} {f:Nat→Option α} (h:∀ k,Le (f k) (f (k + 1))) {k k':Nat} (hk:k≤k'):Le (f k) (f k'):=by
  induction hk with
  | refl=>exact Le.refl _
  | step _ ih=>exact fun r hr=>h _ r (ih r hr)
end Go.Proofs.Abs
end

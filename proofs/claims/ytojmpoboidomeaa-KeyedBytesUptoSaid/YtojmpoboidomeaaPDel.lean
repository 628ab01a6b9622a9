/- slices.Delete and slices.Insert at a list of pairs, walked in this program. -/
import Derived.Test.YtojmpoboidomeaaRows
import Derived.Test.YtojmpoboidomeaaAbsxf
set_option linter.unusedSimpArgs false
namespace Go.Proofs.Abs
open Go
set_option linter.unusedVariables false
set_option maxHeartbeats 4000000
set_option maxRecDepth 100000
theorem delSame (b n cap i : Nat) (w : World) (hin : i ≤ n) (hnc : n ≤ cap) : Calls Try.prog 102 #[.slice (some ⟨b, 0, none⟩) n cap, .int .i64 i, .int .i64 i] w fun e w' => e = .returned (.slice (some ⟨b, 0, none⟩) n cap) ∧ w' = w := by
  have hb1 : (0 : Int) ≤ (i : Int) := by omega
  have hb2 : (i : Int) ≤ (n : Int) := by omega
  go_enter Try.func102, Try.ntmps102
  go_wp2
  all_goals go_ret
  all_goals exact ⟨rfl, rfl⟩
theorem delNil (w : World) : Calls Try.prog 102 #[.slice none 0 0, .int .i64 0, .int .i64 0] w fun e w' => e = .returned (.slice none 0 0) ∧ w' = w := by
  go_enter Try.func102, Try.ntmps102
  go_wp2
  go_ret
  exact ⟨rfl, rfl⟩
theorem delCut (b n cap i j : Nat) (w : World) (hij : i < j) (hjn : j < n) (hnc : n ≤ cap) (hbig : n ≤ 140737488355328) (w1 w2 : World)
    (hA : ∀ ty dc, (Builtin.append_ #[87, 87] ty #[.slice (some ⟨b, 0, none⟩) i cap, .slice (some ⟨b, j * 3, none⟩) (n - j) dc]).run Try.prog w.drew = .ok (.slice (some ⟨b, 0, none⟩) (i + (n - j)) cap) w1)
    (hC : ∀ ty dc, (Builtin.clear_ #[87] ty #[.slice (some ⟨b, (i + (n - j)) * 3, none⟩) (n - (i + (n - j))) dc]).run Try.prog w1 = .ok (.tuple #[]) w2) :
    Calls Try.prog 102 #[.slice (some ⟨b, 0, none⟩) n cap, .int .i64 i, .int .i64 j] w fun e w' => e = .returned (.slice (some ⟨b, 0, none⟩) (i + (n - j)) cap) ∧ w' = w2 := by
  have hb1 : (0 : Int) ≤ (i : Int) := by omega
  have hb2 : (i : Int) ≤ (j : Int) := by omega
  have hb3 : (j : Int) ≤ (n : Int) := by omega
  have hb4 : ¬ ((i : Int) = (j : Int)) := by omega
  have hb5 : (i : Int) ≤ (cap : Int) := by omega
  have hb6 : ¬ i = n := by omega
  have hb7 : ¬ cap = i := by omega
  have hb8 : ¬ n - i = 0 := by omega
  have hb9 : ¬ cap = j := by omega
  have hb10 : ¬ cap = i + (n - j) := by omega
  have hb11 : (0 : Int) ≤ (j : Int) := by omega
  have hb12 : ((i + (n - j) : Nat) : Int) ≤ (n : Int) := by omega
  have hb13 : (0 : Int) ≤ ((i + (n - j) : Nat) : Int) := by omega
  have mixed : Try.prog.follows .mixedOrders = true := by kernel_rfl
  go_enter Try.func102, Try.ntmps102
  go_wp2
  go_region_law_o (refine step_builtinA rfl _ _ 87 87 rfl _ _ (by simp [Act.eval, Act.put]) (by simp [Act.eval, Act.put]) (hA _ (cap - j)) ?_)
  go_wp2_with (simp only [hC])
  all_goals go_ret
  all_goals exact ⟨rfl, rfl⟩
theorem delEnd (b n cap i : Nat) (w : World) (hin : i < n) (hnc : n ≤ cap) (hbig : n ≤ 140737488355328) (w2 : World)
    (hA : ∀ ty a dc, (Builtin.append_ #[87, 87] ty #[.slice (some ⟨b, 0, none⟩) i cap, .slice (some a) 0 dc]).run Try.prog w.drew = .ok (.slice (some ⟨b, 0, none⟩) i cap) w.drew)
    (hC : ∀ ty dc, (Builtin.clear_ #[87] ty #[.slice (some ⟨b, i * 3, none⟩) (n - i) dc]).run Try.prog w.drew = .ok (.tuple #[]) w2) :
    Calls Try.prog 102 #[.slice (some ⟨b, 0, none⟩) n cap, .int .i64 i, .int .i64 n] w fun e w' => e = .returned (.slice (some ⟨b, 0, none⟩) i cap) ∧ w' = w2 := by
  have hb1 : (0 : Int) ≤ (i : Int) := by omega
  have hb2 : (i : Int) ≤ (n : Int) := by omega
  have hb4 : ¬ ((i : Int) = (n : Int)) := by omega
  have hb5 : (i : Int) ≤ (cap : Int) := by omega
  have hb6 : ¬ i = n := by omega
  have hb7 : ¬ cap = i := by omega
  have hb8 : ¬ n - i = 0 := by omega
  have hb11 : (0 : Int) ≤ (n : Int) := by omega
  have mixed : Try.prog.follows .mixedOrders = true := by kernel_rfl
  by_cases hcn : cap = n
  · subst hcn
    go_enter Try.func102, Try.ntmps102
    go_wp2
    go_region_law_o (refine step_builtinA rfl _ _ 87 87 rfl _ _ (by simp [Act.eval, Act.put]) (by simp [Act.eval, Act.put]) (hA _ ⟨b, 0, none⟩ 0) ?_)
    go_wp2_with (simp only [hC])
    all_goals go_ret
    all_goals exact ⟨rfl, rfl⟩
  · go_enter Try.func102, Try.ntmps102
    go_wp2
    go_region_law_o (refine step_builtinA rfl _ _ 87 87 rfl _ _ (by simp [Act.eval, Act.put]) (by simp [Act.eval, Act.put]) (hA _ ⟨b, n * 3, none⟩ (cap - n)) ?_)
    go_wp2_with (simp only [hC])
    all_goals go_ret
    all_goals exact ⟨rfl, rfl⟩
theorem info95 : ∃ jj, Try.prog.info? 95 = some jj ∧ jj.size = 3 ∧ jj.zero = some (.agg #[.string ⟨#[]⟩, .slice none 0 0, .bool false]) ∧ jj.bytes = 48 := by
  obtain ⟨jj, hj⟩ := Option.isSome_iff_exists.1 (show (Try.prog.info? 95).isSome = true by kernel_rfl)
  have h1 : (Try.prog.info? 95).map (·.size) = some 3 := by kernel_rfl
  have h2 : (Try.prog.info? 95).bind (·.zero) = some (.agg #[.string ⟨#[]⟩, .slice none 0 0, .bool false]) := by kernel_rfl
  have h3 : (Try.prog.info? 95).map (·.bytes) = some 48 := by kernel_rfl
  rw [hj] at h1 h2 h3
  exact ⟨jj, hj, Option.some.inj h1, h2, Option.some.inj h3⟩
theorem zone (n : Nat) : ∀ v ∈ (Builtin.zeroCells (Value.agg #[.string ⟨#[]⟩, .slice none 0 0, .bool false]).cells n).toList, v.oneCell' = true := by
  intro v hv
  simp only [Builtin.zeroCells, Array.mem_toList_iff, Array.mem_map, Array.mem_range] at hv
  obtain ⟨q, _, rfl⟩ := hv
  have h3 : (Value.agg #[.string ⟨#[]⟩, .slice none 0 0, .bool false]).cells.size = 3 := rfl
  rw [h3]
  have : q % 3 = 0 ∨ q % 3 = 1 ∨ q % 3 = 2 := by omega
  rcases this with h | h | h <;> rw [h] <;> rfl
theorem zlen (n : Nat) : (Builtin.zeroCells (Value.agg #[.string ⟨#[]⟩, .slice none 0 0, .bool false]).cells n).toList.length = n * 3 := by
  simp only [Array.length_toList, size_zeroCells]; rfl
theorem delB : DelB Try.prog 102 3 := by
  obtain ⟨jj, hj, hsz, hz0, _⟩ := info95
  refine ⟨⟨Try.f102, Try.func102, by kernel_rfl, by kernel_rfl⟩, fun b n cap i j c et w hb hij hjn hnc hcz h1 hbig => ?_, delNil⟩
  by_cases he : i = j
  · subst he
    refine (delSame b n cap i w hjn hnc).mono fun e w' ⟨h2, h3⟩ => ?_
    subst h3
    exact ⟨c, by rw [h2, Nat.sub_self, Nat.sub_zero], ⟨by rw [setRow_self w' b c et (0, 0) hb], rfl, rfl, rfl, rfl⟩, fun _ _ => rfl, fun _ _ => rfl⟩
  have hij' : i < j := by omega
  have hbd : w.drew.heap[b]? = some (.cells c et (0, 0)) := hb
  have hn3 : n * 3 ≤ c.size := by omega
  by_cases hjn' : j < n
  · let cs : List Value := (c.toList.drop (j * 3)).take ((n - j) * 3)
    have hcs : cs.length = (n - j) * 3 := by simp [cs]; omega
    have hat : ∀ k v, cs[k]? = some v → c[j * 3 + k]? = some v ∧ k < (n - j) * 3 := by
      intro k v hk
      obtain ⟨hk1, _⟩ := List.getElem?_eq_some_iff.1 hk
      refine ⟨?_, by omega⟩
      simp only [cs, List.getElem?_take, List.getElem?_drop] at hk
      rw [if_pos (by omega)] at hk
      simpa using hk
    have hsrc : ∀ k v, cs[k]? = some v → w.drew.cell? ((⟨b, j * 3, none⟩ : Addr).add k) = some v := by
      intro k v hk
      rw [addr_add, cellAt hbd]
      exact (hat k v hk).1
    have hone : ∀ v ∈ cs, v.oneCell' = true := by
      intro v hv
      obtain ⟨k, hk, rfl⟩ := List.getElem_of_mem hv
      obtain ⟨h2, h3⟩ := hat k _ (List.getElem?_eq_getElem hk)
      exact h1 (j * 3 + k) _ (by omega) h2
    let c1 := putAt c (i * 3) cs
    have hc1 : c1.size = c.size := putAt_size (by rw [hcs]; omega)
    have hzl := zlen (n - (i + (n - j)))
    have hfit2 : (i + (n - j)) * 3 + (Builtin.zeroCells (Value.agg #[.string ⟨#[]⟩, .slice none 0 0, .bool false]).cells (n - (i + (n - j)))).toList.length ≤ c1.size := by rw [hzl, hc1]; omega
    have h1heap : (w.drew.setRow b c1).heap[b]? = some (.cells c1 et (0, 0)) := setRow_heap _ b c c1 et (0, 0) hbd
    refine (delCut b n cap i j w hij' hjn' hnc hbig (w.drew.setRow b c1) _ (fun ty dc => ?_) (fun ty dc => run_clear_own (P := Try.prog) (w.drew.setRow b c1) 87 95 ty b ((i + (n - j)) * 3) (n - (i + (n - j))) dc et c1 Try.underlying87 hj hz0 (by omega) h1heap hfit2 (zone _))).mono fun e w' ⟨h2, h3⟩ => ?_
    · have := run_append_own (P := Try.prog) w.drew 87 87 ty 95 b i cap ⟨b, j * 3, none⟩ (n - j) dc et c cs Try.underlying87 Try.underlying87 hj (by rw [hsz]; exact hcs) hsrc hbd (by omega) (by rw [hsz, hcs]; omega) hone
      rw [hsz] at this
      exact this
    · subst h3
      refine ⟨_, by rw [h2]; congr 2; omega, ⟨row_row hbd c1 _, rfl, rfl, rfl, by rw [putAt_size hfit2, hc1]⟩, fun m hm => ?_, fun m hm => ?_⟩
      · rw [putAt_low hfit2 (by omega), putAt_low (by rw [hcs]; omega) hm]
      · rw [putAt_low hfit2 (by omega), putAt_in (by rw [hcs]; omega) (by omega)]
        simp only [cs, List.getElem?_take, List.getElem?_drop]
        rw [if_pos (by omega)]
        simp
  · obtain rfl : j = n := by omega
    have hzl := zlen (j - i)
    have hfit2 : i * 3 + (Builtin.zeroCells (Value.agg #[.string ⟨#[]⟩, .slice none 0 0, .bool false]).cells (j - i)).toList.length ≤ c.size := by rw [hzl]; omega
    refine (delEnd b j cap i w hij' hnc hbig _ (fun ty a dc => ?_) (fun ty dc => run_clear_own (P := Try.prog) w.drew 87 95 ty b (i * 3) (j - i) dc et c Try.underlying87 hj hz0 (by omega) hbd hfit2 (zone _))).mono fun e w' ⟨h2, h3⟩ => ?_
    · have := run_append_own (P := Try.prog) w.drew 87 87 ty 95 b i cap a 0 dc et c [] Try.underlying87 Try.underlying87 hj (by simp) (fun k v hk => by simp at hk) hbd (by omega) (by rw [hsz]; simp; omega) (fun v hv => by cases hv)
      rw [this]
      have : putAt c (i * jj.size) [] = c := by
        simp only [putAt, List.length_nil, Nat.add_zero, List.append_nil, List.take_append_drop, Array.toArray_toList]
      rw [this, setRow_self w.drew b c et (0, 0) hbd]
      rfl
    · subst h3
      refine ⟨_, by rw [h2]; congr 2; omega, ⟨rfl, rfl, rfl, rfl, putAt_size hfit2⟩, fun m hm => ?_, fun m hm => ?_⟩
      · rw [putAt_low hfit2 hm]
      · simp at hm
theorem insEnd (b n cap vb vo vc : Nat) (w : World) (hnc : n ≤ cap) (rv : Value) (w1 : World)
    (hA : ∀ ty, (Builtin.append_ #[87, 87] ty #[.slice (some ⟨b, 0, none⟩) n cap, .slice (some ⟨vb, vo, none⟩) 1 vc]).run Try.prog w = .ok rv w1) :
    Calls Try.prog 103 #[.slice (some ⟨b, 0, none⟩) n cap, .int .i64 n, .slice (some ⟨vb, vo, none⟩) 1 vc] w fun e w' => e = .returned rv ∧ w' = w1 := by
  have hb1 : (0 : Int) ≤ (n : Int) := by omega
  go_enter Try.func103, Try.ntmps103
  go_wp2_with (at_builtin; refine Lib.wpList_append_run _ rfl _ _ _ _ rfl _ _ rfl rfl _ _ (hA _) ?_)
  all_goals go_ret
  all_goals exact ⟨rfl, rfl⟩
theorem insNil (vb vo vc : Nat) (w : World) (rv : Value) (w1 : World)
    (hA : ∀ ty, (Builtin.append_ #[87, 87] ty #[.slice none 0 0, .slice (some ⟨vb, vo, none⟩) 1 vc]).run Try.prog w = .ok rv w1) :
    Calls Try.prog 103 #[.slice none 0 0, .int .i64 0, .slice (some ⟨vb, vo, none⟩) 1 vc] w fun e w' => e = .returned rv ∧ w' = w1 := by
  go_enter Try.func103, Try.ntmps103
  go_wp2_with (at_builtin; refine Lib.wpList_append_run _ rfl _ _ _ _ rfl _ _ rfl rfl _ _ (hA _) ?_)
  all_goals go_ret
  all_goals exact ⟨rfl, rfl⟩
theorem insShift (b n cap i vb vo vc : Nat) (w : World) (hin : i < n) (hnc : n + 1 ≤ cap) (hbig : n ≤ 140737488355328) (w1 w2 : World)
    (hov : ∀ lb cb, (callFunc 114 #[.slice (some ⟨vb, vo, none⟩) 1 vc, .slice (some ⟨b, (i + 1) * 3, none⟩) lb cb]).run Try.prog w = .ok (.value (.bool false)) w)
    (h1 : ∀ ty dc sc, (Builtin.copy_ #[87, 87] ty #[.slice (some ⟨b, (i + 1) * 3, none⟩) (n + 1 - (i + 1)) dc, .slice (some ⟨b, i * 3, none⟩) (n + 1 - i) sc]).run Try.prog w.drew = .ok (goInt (Nat.min (n + 1 - i) (n + 1 - (i + 1)))) w1)
    (h2 : ∀ ty dc, (Builtin.copy_ #[87, 87] ty #[.slice (some ⟨b, i * 3, none⟩) (n + 1 - i) dc, .slice (some ⟨vb, vo, none⟩) 1 vc]).run Try.prog w1 = .ok (goInt (Nat.min 1 (n + 1 - i))) w2) :
    Calls Try.prog 103 #[.slice (some ⟨b, 0, none⟩) n cap, .int .i64 i, .slice (some ⟨vb, vo, none⟩) 1 vc] w fun e w' => e = .returned (.slice (some ⟨b, 0, none⟩) (n + 1) cap) ∧ w' = w2 := by
  have hb1 : (0 : Int) ≤ (i : Int) := by omega
  have hb2 : ¬ ((i : Int) = (n : Int)) := by omega
  have hw0 : IntKind.i64.wrap ((n : Int) + 1) = (n : Int) + 1 := i64w (by omega)
  have hw1 : IntKind.i64.wrap ((i : Int) + 1) = (i : Int) + 1 := i64w (by omega)
  have hb3 : (0 : Int) ≤ (i : Int) + 1 := by omega
  have hb4 : (0 : Int) ≤ (n : Int) + 1 := by omega
  have hb5 : ¬ ((cap : Int) < (n : Int) + 1) := by omega
  have hb6 : ((n : Int) + 1).toNat = n + 1 := by omega
  have hb7 : ((i : Int) + 1).toNat = i + 1 := by omega
  have hb8 : (i : Int) ≤ (n : Int) := by omega
  have hb9 : (i : Int) + 1 ≤ (n : Int) + 1 := by omega
  have hb10 : (n : Int) + 1 ≤ (cap : Int) := by omega
  have hb11 : ¬ cap = i + 1 := by omega
  have hb12 : ¬ cap = i := by omega
  have hb13 : (i : Int) ≤ (n : Int) + 1 := by omega
  have mixed : Try.prog.follows .mixedOrders = true := by kernel_rfl
  go_enter Try.func103, Try.ntmps103
  go_wp2_with (simp only [hov])
  go_region_law_o (refine step_builtinC rfl _ _ 87 87 rfl _ _ (by simp [Act.eval, Act.put]) (by simp [Act.eval, Act.put]) (h1 _ (cap - (i + 1)) (cap - i)) ?_)
  go_wp2_with (simp only [h2])
  all_goals go_ret
  all_goals exact ⟨rfl, rfl⟩
theorem insGrow (b n i vb vo vc nb G : Nat) (w : World) (hin : i < n) (hG1 : n + 1 ≤ G) (hbig : n ≤ 140737488355328) (w1 w2 w3 : World)
    (h0 : ∀ ty, (Builtin.append_ #[87, 3] ty #[.slice (some ⟨b, 0, none⟩) i n, .int .i64 ((n : Int) + 1 - (i : Int))]).run Try.prog w = .ok (.slice (some ⟨nb, 0, none⟩) (n + 1) G) w1)
    (h1 : ∀ ty dc, (Builtin.copy_ #[87, 87] ty #[.slice (some ⟨nb, i * 3, none⟩) (n + 1 - i) dc, .slice (some ⟨vb, vo, none⟩) 1 vc]).run Try.prog w1 = .ok (goInt (Nat.min 1 (n + 1 - i))) w2)
    (h2 : ∀ ty dc sc, (Builtin.copy_ #[87, 87] ty #[.slice (some ⟨nb, (i + 1) * 3, none⟩) (n + 1 - (i + 1)) dc, .slice (some ⟨b, i * 3, none⟩) (n - i) sc]).run Try.prog w2.drew = .ok (goInt (Nat.min (n - i) (n + 1 - (i + 1)))) w3) :
    Calls Try.prog 103 #[.slice (some ⟨b, 0, none⟩) n n, .int .i64 i, .slice (some ⟨vb, vo, none⟩) 1 vc] w fun e w' => e = .returned (.slice (some ⟨nb, 0, none⟩) (n + 1) G) ∧ w' = w3 := by
  have hb1 : (0 : Int) ≤ (i : Int) := by omega
  have hb2 : ¬ ((i : Int) = (n : Int)) := by omega
  have hw0 : IntKind.i64.wrap ((n : Int) + 1) = (n : Int) + 1 := i64w (by omega)
  have hw1 : IntKind.i64.wrap ((i : Int) + 1) = (i : Int) + 1 := i64w (by omega)
  have hw2 : IntKind.i64.wrap ((n : Int) + 1 - (i : Int)) = (n : Int) + 1 - (i : Int) := i64w (by omega)
  have hb3 : (0 : Int) ≤ (i : Int) + 1 := by omega
  have hb5 : (n : Int) < (n : Int) + 1 := by omega
  have hb7 : ((i : Int) + 1).toNat = i + 1 := by omega
  have hb8 : (i : Int) ≤ (n : Int) := by omega
  have hb9 : (i : Int) + 1 ≤ (n : Int) + 1 := by omega
  have hb11 : ¬ G = i + 1 := by omega
  have hb12 : ¬ G = i := by omega
  have hb13 : (i : Int) ≤ (n : Int) + 1 := by omega
  have hb14 : ¬ n = i := by omega
  have mixed : Try.prog.follows .mixedOrders = true := by kernel_rfl
  go_enter Try.func103, Try.ntmps103
  go_wp2_with (first | (at_builtin; refine Lib.wpList_append_run _ rfl _ _ _ _ rfl _ _ rfl rfl _ _ (h0 _) ?_) | (at_builtin; refine wp_copyC _ rfl _ _ 87 87 rfl _ _ rfl rfl (h1 _ (G - i)) ?_))
  go_region_law_o (refine step_builtinC rfl _ _ 87 87 rfl _ _ (by simp [Act.eval, Act.put]) (by simp [Act.eval, Act.put]) (h2 _ (G - (i + 1)) (n - i)) ?_)
  go_wp2
  all_goals go_ret
  all_goals exact ⟨rfl, rfl⟩
theorem insB : InsB Try.prog 103 3 48 := by
  obtain ⟨jj, hj, hsz, hz0, hby⟩ := info95
  refine ⟨⟨Try.f103, Try.func103, by kernel_rfl, by kernel_rfl⟩, fun b n cap i vb vo vc c et new w hb hin hnc hcz h1 hvb hnl hnew hfit => ?_, fun vb vo vc new w hnl hnew => ?_⟩
  · have hn3 : n * 3 ≤ c.size := by omega
    have hn1 : n ≤ 140737488355328 := by omega
    have hnone : ∀ v ∈ new, v.oneCell' = true := fun v hv => by
      obtain ⟨k, hk, rfl⟩ := List.getElem_of_mem hv
      exact (hnew k _ (List.getElem?_eq_getElem hk)).2
    have hnsrc : ∀ k v, new[k]? = some v → w.cell? ((⟨vb, vo, none⟩ : Addr).add k) = some v := fun k v hk => by rw [addr_add]; exact (hnew k v hk).1
    have hld : (Builtin.firstCells jj.size 1 (.slice (some ⟨vb, vo, none⟩) 1 vc)).run Try.prog w.drew = .ok new.toArray w.drew := by
      have := run_loadCells_list (P := Try.prog) w.drew ⟨vb, vo, none⟩ new (fun k v hk => by rw [World.cell?_drew]; exact hnsrc k v hk)
      rw [hnl] at this
      simp only [Builtin.firstCells, hsz]
      exact this
    have hvw : vb < w.heap.size := by
      have h0 := (hnew 0 _ (List.getElem?_eq_getElem (show 0 < new.length by omega))).1
      unfold World.cell? at h0
      simp only at h0
      rcases Nat.lt_or_ge vb w.heap.size with h | h
      · exact h
      · rw [Array.getElem?_eq_none h] at h0; cases h0
    have hbw : b < w.heap.size := (Array.getElem?_eq_some_iff.1 hb).1
    -- all that is new: the cells
    have fin : ∀ (c' : Array Value), (∀ m, m < i * 3 → c'[m]? = c[m]?) → (∀ m, m < 3 → c'[i * 3 + m]? = new[m]?) → (∀ m, m < (n - i) * 3 → c'[(i + 1) * 3 + m]? = c[i * 3 + m]?) → True := fun _ _ _ _ => trivial
    by_cases hend : i = n
    · subst hend
      by_cases hroom : i + 1 ≤ cap
      · have hA : ∀ ty, (Builtin.append_ #[87, 87] ty #[.slice (some ⟨b, 0, none⟩) i cap, .slice (some ⟨vb, vo, none⟩) 1 vc]).run Try.prog w = .ok (.slice (some ⟨b, 0, none⟩) (i + 1) cap) (w.setRow b (putAt c (i * 3) new)) := fun ty => by
          have := run_append_own (P := Try.prog) w 87 87 ty 95 b i cap ⟨vb, vo, none⟩ 1 vc et c new Try.underlying87 Try.underlying87 hj (by rw [hsz]; omega) hnsrc hb hroom (by rw [hsz]; omega) hnone
          rw [hsz] at this
          exact this
        refine (insEnd b i cap vb vo vc w hnc _ _ hA).mono fun e w' ⟨h2, h3⟩ => ?_
        subst h3
        have hl : i * 3 + new.length ≤ c.size := by omega
        refine ⟨putAt c (i * 3) new, b, cap, h2, .inl ⟨rfl, rfl, hroom, rfl, rfl, rfl, rfl, putAt_size hl⟩, fun m hm => putAt_low hl hm, fun m hm => putAt_in hl (by omega), fun m hm => ?_⟩
        simp at hm
      · have hcap : cap = i := by omega
        subst hcap
        have hA : ∀ ty, (Builtin.append_ #[87, 87] ty #[.slice (some ⟨b, 0, none⟩) cap cap, .slice (some ⟨vb, vo, none⟩) 1 vc]).run Try.prog w = .ok (.slice (some ⟨w.heap.size, 0, none⟩) (cap + 1) (grownCap w (cap + 1) cap 95))
            (w.drew.alloc (.cells ((cutAt c 0 (cap * 3)).toArray ++ new.toArray ++ Builtin.zeroCells (Value.agg #[.string ⟨#[]⟩, .slice none 0 0, .bool false]).cells (grownCap w (cap + 1) cap 95 - (cap + 1))) 95)) := fun ty =>
          run_append_grows' (P := Try.prog) (ats := #[87, 87]) rfl rfl Try.underlying87 Try.underlying87 (.inl ⟨_, rfl⟩) hj hz0 (n := 1) (x := .slice (some ⟨vb, vo, none⟩) 1 vc) (base := some ⟨b, 0, none⟩) (sLen := cap) (sCap := cap) rfl hld
            (by rw [hsz]; exact firstCells_own (P := Try.prog) w.drew (c := c) (et := et) (f := (0, 0)) hb hn3) (by omega) (by omega) (by rw [hby]; exact Nat.le_trans (Nat.mul_le_mul_right _ (nextslicecap_le (by omega))) (by omega))
        refine (insEnd b cap cap vb vo vc w hnc _ _ hA).mono fun e w' ⟨h2, h3⟩ => ?_
        subst h3
        have hG := grownCap_ge w (cap + 1) cap 95
        generalize grownCap w (cap + 1) cap 95 = G at *
        have hcl : (cutAt c 0 (cap * 3)).length = cap * 3 := cutAt_len (by omega)
        have hzs : (Builtin.zeroCells (Value.agg #[.string ⟨#[]⟩, .slice none 0 0, .bool false]).cells (G - (cap + 1))).size = (G - (cap + 1)) * 3 := by rw [size_zeroCells]; rfl
        refine ⟨_, w.heap.size, G, h2, .inr ⟨rfl, ⟨95, newblk_drawn w _ 95⟩, hG, ?_⟩, fun m hm => ?_, fun m hm => ?_, fun m hm => ?_⟩
        · simp only [Array.size_append, List.size_toArray, hcl, hnl, hzs]; omega
        · rw [Array.append_assoc, Array.getElem?_append_left (by simp; omega)]
          simp only [List.getElem?_toArray]
          rw [cutAt_get hm]; simp
        · rw [Array.getElem?_append_left (by simp; omega), Array.getElem?_append_right (by simp; omega)]
          simp only [List.getElem?_toArray, List.size_toArray, hcl]
          congr 1; omega
        · simp at hm
    · have hin' : i < n := by omega
      by_cases hroom : n + 1 ≤ cap
      · let cs := cutAt c (i * 3) ((n - i) * 3)
        have hcs : cs.length = (n - i) * 3 := cutAt_len (by omega)
        let c1 := putAt c ((i + 1) * 3) cs
        have hl1 : (i + 1) * 3 + cs.length ≤ c.size := by omega
        have hc1 : c1.size = c.size := putAt_size hl1
        have hl2 : i * 3 + new.length ≤ c1.size := by omega
        have h1heap : (w.drew.setRow b c1).heap[b]? = some (.cells c1 et (0, 0)) := setRow_heap _ b c c1 et (0, 0) hb
        obtain ⟨tA, kA, hsa⟩ := shape_of_cell ((hnew 0 _ (List.getElem?_eq_getElem (show 0 < new.length by omega))).1)
        have hsb : w.shape? b = some (et, (c.size - 1) + 1) := by
          unfold World.shape?
          rw [hb, Nat.sub_add_cancel (show 1 ≤ c.size by omega)]
        have hfz : ∀ k, w.frozen? ⟨b, k, none⟩ = false := fun k => by
          unfold World.frozen?
          simp only [hb]
          simp
        have hszof : ∀ w, (Go.sizeOf 95).run Try.prog w = .ok 3 w := fun w => by simp [sizeOf, typeInfo, hj, hsz]
        have hov : ∀ lb cb, (callFunc 114 #[.slice (some ⟨vb, vo, none⟩) 1 vc, .slice (some ⟨b, (i + 1) * 3, none⟩) lb cb]).run Try.prog w = .ok (.value (.bool false)) w := fun lb cb => by
          rw [run_callFunc_extern Try.func114 (by kernel_rfl) (by kernel_rfl) (by kernel_rfl) (e := Extern.SlicesOverlaps.overlaps #[87, 87] #[4]) (by kernel_rfl),
            run_overlaps_own w 87 4 95 Try.underlying87 3 hszof ⟨vb, vo, none⟩ ⟨b, (i + 1) * 3, none⟩ 1 vc lb cb hvb tA et kA (c.size - 1) hsa hsb (hfz _) (hfz _)]
          rfl
        have hmin1 : Nat.min (n + 1 - i) (n + 1 - (i + 1)) = n - i := by simp only [Nat.min_def]; split <;> omega
        have hmin2 : Nat.min 1 (n + 1 - i) = 1 := by simp only [Nat.min_def]; split <;> omega
        refine (insShift b n cap i vb vo vc w hin' hroom hn1 (w.drew.setRow b c1) ((w.drew.setRow b c1).setRow b (putAt c1 (i * 3) new)) hov (fun ty dc sc => ?_) (fun ty dc => ?_)).mono fun e w' ⟨h2, h3⟩ => ?_
        · exact run_copy_own (P := Try.prog) w.drew 87 87 ty 95 b ((i + 1) * 3) (n + 1 - (i + 1)) dc ⟨b, i * 3, none⟩ (n + 1 - i) sc et c cs Try.underlying87 hj (by rw [hmin1, hsz, hcs]) (fun k v hk => by
            rw [addr_add, cellAt (w := w.drew) hb]
            exact (cutAt_at hk).1) hb hl1 (fun v hv => by
            obtain ⟨k, hk, rfl⟩ := List.getElem_of_mem hv
            obtain ⟨q1, q2⟩ := cutAt_at (List.getElem?_eq_getElem hk)
            exact h1 (i * 3 + k) _ (by omega) q1)
        · exact run_copy_own (P := Try.prog) (w.drew.setRow b c1) 87 87 ty 95 b (i * 3) (n + 1 - i) dc ⟨vb, vo, none⟩ 1 vc et c1 new Try.underlying87 hj (by rw [hmin2, hsz, hnl]) (fun k v hk => by
            rw [addr_add, cell_setRow_other _ _ _ _ (show vb ≠ b from hvb), World.cell?_drew]
            exact (hnew k v hk).1) h1heap hl2 hnone
        · subst h3
          refine ⟨putAt c1 (i * 3) new, b, cap, h2, .inl ⟨rfl, rfl, hroom, row_row hb c1 _, rfl, rfl, rfl, by rw [putAt_size hl2, hc1]⟩, fun m hm => ?_, fun m hm => ?_, fun m hm => ?_⟩
          · rw [putAt_low hl2 hm, putAt_low hl1 (by omega)]
          · rw [putAt_in hl2 (by omega)]
          · rw [putAt_high hl2 (by omega), putAt_in hl1 (by omega)]
            exact cutAt_get hm
      · have hcap : cap = n := by omega
        subst hcap
        have hG := grownCap_ge w (cap + 1) cap 95
        have hk1 : (cap : Int) + 1 - (i : Int) = ((cap + 1 - i : Nat) : Int) := by omega
        have hk2 : i + (cap + 1 - i) = cap + 1 := by omega
        have h0 : ∀ ty, (Builtin.append_ #[87, 3] ty #[.slice (some ⟨b, 0, none⟩) i cap, .int .i64 ((cap : Int) + 1 - (i : Int))]).run Try.prog w = .ok (.slice (some ⟨w.heap.size, 0, none⟩) (cap + 1) (grownCap w (cap + 1) cap 95))
            (w.drew.alloc (.cells ((cutAt c 0 (i * 3)).toArray ++ Builtin.zeroCells (Value.agg #[.string ⟨#[]⟩, .slice none 0 0, .bool false]).cells (cap + 1 - i) ++ Builtin.zeroCells (Value.agg #[.string ⟨#[]⟩, .slice none 0 0, .bool false]).cells (grownCap w (cap + 1) cap 95 - (cap + 1))) 95)) := fun ty => by
          have := Lib.run_append_grow_zeros (P := Try.prog) w 87 3 ty 95 jj _ .i64 .i64 Try.underlying87 Try.underlying3 hj hz0 (some ⟨b, 0, none⟩) i cap (cutAt c 0 (i * 3))
            (by
              have h9 := run_loadCells_list (P := Try.prog) w.drew ⟨b, 0, none⟩ (cutAt c 0 (i * 3)) (fun k v hk => by
                rw [addr_add, cellAt (w := w.drew) hb]
                exact (cutAt_at hk).1)
              rw [cutAt_len (by omega)] at h9
              simp only [Builtin.firstCells, hsz]
              exact h9)
            (cap + 1 - i) (by omega) (by omega) (by omega) (by omega) (by rw [hby]; omega) (by rw [hby, hk2]; exact Nat.le_trans (Nat.mul_le_mul_right _ (nextslicecap_le (by omega))) (by omega))
          rw [hk2] at this
          rw [hk1]
          exact this
        generalize hGc : grownCap w (cap + 1) cap 95 = G at *
        have hcl : (cutAt c 0 (i * 3)).length = i * 3 := cutAt_len (by omega)
        have hzs : ∀ q, (Builtin.zeroCells (Value.agg #[.string ⟨#[]⟩, .slice none 0 0, .bool false]).cells q).size = q * 3 := fun q => by rw [size_zeroCells]; rfl
        generalize hR : (cutAt c 0 (i * 3)).toArray ++ Builtin.zeroCells (Value.agg #[.string ⟨#[]⟩, .slice none 0 0, .bool false]).cells (cap + 1 - i) ++ Builtin.zeroCells (Value.agg #[.string ⟨#[]⟩, .slice none 0 0, .bool false]).cells (G - (cap + 1)) = R at *
        have hRs : R.size = G * 3 := by
          rw [← hR]
          simp only [Array.size_append, List.size_toArray, hcl, hzs]; omega
        have hRlow : ∀ m, m < i * 3 → R[m]? = c[m]? := fun m hm => by
          rw [← hR, Array.append_assoc, Array.getElem?_append_left (by simp; omega)]
          simp only [List.getElem?_toArray]
          rw [cutAt_get hm]; simp
        have hnb := newblk_drawn w R 95
        let cs := cutAt c (i * 3) ((cap - i) * 3)
        have hcs : cs.length = (cap - i) * 3 := cutAt_len (by omega)
        have hl1 : i * 3 + new.length ≤ R.size := by omega
        have hl2 : (i + 1) * 3 + cs.length ≤ (putAt R (i * 3) new).size := by rw [putAt_size hl1]; omega
        have hmin1 : Nat.min 1 (cap + 1 - i) = 1 := by simp only [Nat.min_def]; split <;> omega
        have hmin2 : Nat.min (cap - i) (cap + 1 - (i + 1)) = cap - i := by simp only [Nat.min_def]; split <;> omega
        refine (insGrow b cap i vb vo vc w.heap.size G w hin' (by omega) hn1 _ ((w.drew.alloc (.cells R 95)).setRow w.heap.size (putAt R (i * 3) new)) (((w.drew.alloc (.cells R 95)).setRow w.heap.size (putAt R (i * 3) new)).drew.setRow w.heap.size (putAt (putAt R (i * 3) new) ((i + 1) * 3) cs)) h0 (fun ty dc => ?_) (fun ty dc sc => ?_)).mono fun e w' ⟨h2, h3⟩ => ?_
        · exact run_copy_own (P := Try.prog) _ 87 87 ty 95 w.heap.size (i * 3) (cap + 1 - i) dc ⟨vb, vo, none⟩ 1 vc 95 R new Try.underlying87 hj (by rw [hmin1, hsz, hnl]) (fun k v hk => by
            rw [addr_add]
            have := (hnew k v hk).1
            unfold World.cell? at this ⊢
            rw [hnb.old vb hvw]
            exact this) hnb.new hl1 hnone
        · have hnb2 := (hnb.row (putAt R (i * 3) new)).drew
          exact run_copy_own (P := Try.prog) _ 87 87 ty 95 w.heap.size ((i + 1) * 3) (cap + 1 - (i + 1)) dc ⟨b, i * 3, none⟩ (cap - i) sc 95 (putAt R (i * 3) new) cs Try.underlying87 hj (by rw [hmin2, hsz, hcs]) (fun k v hk => by
            rw [addr_add, cellAt (c := c) (et := et) (f := (0, 0)) (by rw [hnb2.old b hbw]; exact hb)]
            exact (cutAt_at hk).1) hnb2.new hl2 (fun v hv => by
            obtain ⟨k, hk, rfl⟩ := List.getElem_of_mem hv
            obtain ⟨q1, q2⟩ := cutAt_at (List.getElem?_eq_getElem hk)
            exact h1 (i * 3 + k) _ (by omega) q1)
        · subst h3
          refine ⟨_, w.heap.size, G, h2, .inr ⟨rfl, ⟨95, ((hnb.row (putAt R (i * 3) new)).drew.row _)⟩, by omega, ?_⟩, fun m hm => ?_, fun m hm => ?_, fun m hm => ?_⟩
          · rw [putAt_size hl2, putAt_size hl1, hRs]; exact Nat.le_refl _
          · rw [putAt_low hl2 (by omega), putAt_low hl1 hm, hRlow m hm]
          · rw [putAt_low hl2 (by omega), putAt_in hl1 (by omega)]
          · rw [putAt_in hl2 (by omega)]
            exact cutAt_get hm
  · have hnsrc : ∀ k v, new[k]? = some v → w.cell? ((⟨vb, vo, none⟩ : Addr).add k) = some v := fun k v hk => by rw [addr_add]; exact (hnew k v hk).1
    have hld : (Builtin.firstCells jj.size 1 (.slice (some ⟨vb, vo, none⟩) 1 vc)).run Try.prog w.drew = .ok new.toArray w.drew := by
      have := run_loadCells_list (P := Try.prog) w.drew ⟨vb, vo, none⟩ new (fun k v hk => by rw [World.cell?_drew]; exact hnsrc k v hk)
      rw [hnl] at this
      simp only [Builtin.firstCells, hsz]
      exact this
    have hA : ∀ ty, (Builtin.append_ #[87, 87] ty #[.slice none 0 0, .slice (some ⟨vb, vo, none⟩) 1 vc]).run Try.prog w = .ok (.slice (some ⟨w.heap.size, 0, none⟩) (0 + 1) (grownCap w (0 + 1) 0 95))
        (w.drew.alloc (.cells (#[] ++ new.toArray ++ Builtin.zeroCells (Value.agg #[.string ⟨#[]⟩, .slice none 0 0, .bool false]).cells (grownCap w (0 + 1) 0 95 - (0 + 1))) 95)) := fun ty =>
      run_append_grows' (P := Try.prog) (ats := #[87, 87]) rfl rfl Try.underlying87 Try.underlying87 (.inl ⟨_, rfl⟩) hj hz0 (n := 1) (x := .slice (some ⟨vb, vo, none⟩) 1 vc) (base := none) (sLen := 0) (sCap := 0) (old := #[]) rfl hld
        (by simp [Builtin.firstCells]) (by omega) (by omega) (by rw [hby]; exact Nat.le_trans (Nat.mul_le_mul_right _ (nextslicecap_le (by omega))) (by omega))
    refine (insNil vb vo vc w _ _ hA).mono fun e w' ⟨h2, h3⟩ => ?_
    subst h3
    have hG := grownCap_ge w (0 + 1) 0 95
    generalize grownCap w (0 + 1) 0 95 = G at *
    refine ⟨_, 95, G, h2, newblk_drawn w _ 95, hG, ?_, fun m hm => ?_⟩
    · have hzs : (Builtin.zeroCells (Value.agg #[.string ⟨#[]⟩, .slice none 0 0, .bool false]).cells (G - (0 + 1))).size = (G - (0 + 1)) * 3 := by rw [size_zeroCells]; rfl
      simp only [Array.size_append, List.size_toArray, hnl, hzs, List.length_nil]; omega
    · rw [Array.empty_append, Array.getElem?_append_left (by simp; omega)]
      simp
end Go.Proofs.Abs

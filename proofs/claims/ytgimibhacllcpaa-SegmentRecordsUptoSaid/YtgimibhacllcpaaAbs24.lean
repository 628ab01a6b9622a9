/- The world at the start; what a law's call comes to. -/
import Derived.Test.YtgimibhacllcpaaAbs23
import Derived.ProofKit
import Derived.Below
import Derived.OpenShut
namespace Go.Proofs.Abs
open Go Go.ChangeShapes Go.WideShapes Go.ChangeAt Go.RowKit

def sealOf (W : World) : Seal where
  cell := W.cell?
  size b := match W.heap[b]? with
    | some (.cells c _ _) => some c.size
    | _ => none
theorem heap0 (W : World) : HeapRel (sealOf W) (fun _ => none) [] W where
  cell := fun _ _ h => h
  size := fun b n h => by
    simp only [sealOf] at h
    split at h
    · rename_i c e f hc
      cases h
      exact ⟨c, e, f, hc, rfl⟩
    · cases h
  obj := fun _ _ h => by cases h
  inj := fun _ _ _ _ _ h => by cases h
  dom := fun _ _ h => by cases h

theorem law_calls {P : Program} {f : FuncId} {args : List AV} (h : ACalls P f args [] (.d (.bool true)) []) {vs : List Value} (W : World) (hlen : args.length = vs.length)
    (hv : ∀ j (h1 : j < args.length) (h2 : j < vs.length), V (sealOf W) (fun _ => none) args[j] vs[j]) : Calls P f vs.toArray W fun e w' => e = .returned (.bool true) ∧ Below W.heap.size W w' := by
  refine Calls.mono (h.2 (sealOf W) (fun _ => none) W vs hlen hv (heap0 W) (fun l hl => by cases hl)) fun e w' ⟨v, he, S', i', h1, h2, h3, h4, h5⟩ => ⟨?_, ?_⟩
  · rw [he, vBool h1]
  · refine ⟨h4.os, h4.tape, h4.out, h4.grow, fun k hk => h4.old k hk ?_⟩
    rintro ⟨l, o, hm, _⟩
    cases hm

/-- a slice's address lies in a row -/
theorem okWide_spot {P : Program} {w : World} {r : Reach} {base : Nat} {t e : TypeId} {a : Addr} {len cap : Nat} (ht : P.underlying t = some (.slice e)) (h : Value.okWide P w r base t (.slice (some a) len cap)) : a.spot = none := by
  simp only [Value.okWide, ht, Cell.okWide, Cell.ok, World.has] at h
  exact h.2.2.2.1

def toBytes (zs : List Int) : List UInt8 := zs.map fun n => UInt8.ofNat n.toNat
theorem toBytes_D {zs : List Int} (h : ∀ n ∈ zs, (Lit.int .u8 n).wf = true) : (toBytes zs).map byteD = zs.map (.int .u8) := by
  rw [toBytes, List.map_map]
  apply List.map_congr_left
  intro n hn
  have hw : 0 ≤ n ∧ n ≤ 255 := by simpa [Lit.wf, IntKind.min, IntKind.max, IntKind.signed, IntKind.bits] using h n hn
  simp only [Function.comp, byteD, UInt8.toNat_ofNat']
  congr 1
  omega
theorem dv_bytes {W : World} {a : Addr} {len cap : Nat} {zs : List Int} (hsp : a.spot = none) (hl : len ≤ cap) (hz : zs.length = cap) (hcell : ∀ i, i < zs.length → W.cell? (a.add i) = some (.int .u8 (zs.getD i 0)))
    (hw : ∀ n ∈ zs, (Lit.int .u8 n).wf = true) : DV (sealOf W) (bytesD (toBytes (zs.take len))) (.slice (some a) len cap) := by
  obtain ⟨b, o, sp⟩ := a
  simp only at hsp
  subst hsp
  have hD := toBytes_D (zs := zs.take len) fun n hn => hw n (List.mem_of_mem_take hn)
  have hlen : (toBytes (zs.take len)).length = len := by simp [toBytes]; omega
  have hf : flat ((toBytes (zs.take len)).map byteD) = (zs.take len).map (.int .u8) := by
    rw [hD]
    exact flat_scalar fun d hd => by
      obtain ⟨n, _, rfl⟩ := List.mem_map.1 hd
      rfl
  have := DV.sl (S := sealOf W) (l := (toBytes (zs.take len)).map byteD) (z := 1) (b := b) (o := o) (cap := cap) (fun i => .int .u8 (zs.getD i 0)) (fun d hd => by
    obtain ⟨n, _, rfl⟩ := List.mem_map.1 hd
    rfl) (fun c hc => by
    rw [hf] at hc
    obtain ⟨n, _, rfl⟩ := List.mem_map.1 hc
    rfl) (by simp [hlen]; omega) (fun m hm => by
    rw [hf] at hm
    simp at hm
    have := hcell m (by omega)
    rw [addr_add] at this
    exact this) (fun m hm => by
    have hm' : m < ((zs.take len).map (D.int .u8)).length := by rw [← hf]; exact hm
    have e : (flat ((toBytes (zs.take len)).map byteD))[m] = ((zs.take len).map (D.int .u8))[m] := by simp only [hf]
    rw [e]
    simp at hm'
    have h3 : m < zs.length := by omega
    simp [h3]
    exact .int)
  simpa [hlen] using this
end Go.Proofs.Abs

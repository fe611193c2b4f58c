/-
  A symbolic evaluator for the model's code: package variables that the row lists: arrays of bytes.
-/
import Derived.Test.YtmacjmofhaghbaaDoorSyX
import Derived.OpenShut
import Derived.MakeChecks
import Derived.LaidHandle
noncomputable section
namespace Go.Proofs.YtmacjmofhaghbaaDoor.Sy
open Go

/-- What a row lists of an array of bytes. -/
def bytesD {H : Type} (l : List Nat) : DataW H := .agg (l.map fun n => .lit (.int .u8 (n : Nat)))
def bytesV (l : List Nat) : List Value := l.map fun n => .int .u8 (n : Nat)

theorem laid_bytes {P : Program} {name : String} {l : List Nat} {g : Nat} {t e : TypeId} {W : World} (h : laidMetH P [(name, bytesD l)] W)
    (hg : P.globalNamed name = some g) (ht : (P.globals[g]?).map (·.type) = some t) (hu : P.underlying t = some (.array l.length e)) (he : P.underlying e = some (.int .u8)) (hc : P.cellsOf e = 1)
    (hct : P.cellsOf t = l.length) : Laid [(g, bytesV l)] W := by
  rw [MakeChecks.laidMetH_plain _ _ _ (by rfl)] at h
  obtain ⟨ps, ⟨g0, t0, cs, f0, p0, q0, hg0, ht0, hv, hd, _, _⟩, _⟩ := h
  obtain rfl := Option.some.inj (hg.symm.trans hg0)
  obtain rfl := Option.some.inj (ht.symm.trans ht0)
  obtain ⟨xs, m, _, hx, hlen, hn, hel⟩ := DataW.trod_array hu hd
  simp only [Prod.mk.injEq, bytesD, DataW.agg.injEq] at hx
  have hcs : cs.toList = bytesV l := by
    apply List.ext_getElem
    · rw [hlen, hct]; simp [bytesV]
    · intro i h1 h2
      have hi : i < l.length := by simpa [bytesV] using h2
      have h3 := hel i hi
      rw [hc, Nat.mul_one] at h3
      have hxi : xs[i]? = some (xs[i]'(by omega)) := List.getElem?_eq_getElem _
      rw [hxi] at h3
      obtain ⟨n, e1, e2, _⟩ := DataW.trod_int he h3
      have e3 : (xs.map (·.1))[i]? = (l.map fun n => (DataW.lit (Lit.int .u8 (n : Nat)) : DataW Unit))[i]? := by rw [← hx.1]
      rw [List.getElem?_map, hxi, List.getElem?_map, List.getElem?_eq_getElem hi] at e3
      simp only [Option.map_some, Option.some.injEq, e2, DataW.lit.injEq, Lit.int.injEq, true_and] at e3
      have e4 : (cs.toList.drop i).take 1 = [cs.toList[i]] := by
        rw [List.drop_eq_getElem_cons h1]; simp
      rw [e4] at e1
      simp only [List.cons.injEq, and_true] at e1
      rw [e1, e3]
      simp [bytesV]
  unfold World.var? at hv
  rw [hg] at hv
  simp only [Option.bind_some] at hv
  intro p hp
  simp only [List.mem_singleton] at hp
  subst hp
  split at hv
  · rename_i c e' fr hb
    cases hv
    exact ⟨e', fr, by rw [hb, ← hcs]⟩
  · cases hv

/-- What a row lists of an array of numbers. -/
def numsD {H : Type} (k : IntKind) (l : List Int) : DataW H := .agg (l.map fun n => .lit (.int k n))
def numsV (k : IntKind) (l : List Int) : List Value := l.map fun n => .int k n

theorem laid_one {P : Program} {name : String} {k : IntKind} {l : List Int} {g : Nat} {t e : TypeId} {W : World} {cs : Array Value} {fuel : Nat} {p : List MemPlace}
    (hv : W.var? P name = some cs) (hd : DataW.trod (fun _ => ()) P W 0 (fun _ => true) false fuel t cs.toList = some (numsD k l, p)) (hg : P.globalNamed name = some g)
    (hu : P.underlying t = some (.array l.length e)) (he : P.underlying e = some (.int k)) (hc : P.cellsOf e = 1) (hct : P.cellsOf t = l.length) :
    ∃ e' fr, W.heap[g]? = some (.cells (numsV k l).toArray e' fr) := by
  obtain ⟨xs, m, _, hx, hlen, hn, hel⟩ := DataW.trod_array hu hd
  simp only [Prod.mk.injEq, numsD, DataW.agg.injEq] at hx
  have hcs : cs.toList = numsV k l := by
    apply List.ext_getElem
    · rw [hlen, hct]; simp [numsV]
    · intro i h1 h2
      have hi : i < l.length := by simpa [numsV] using h2
      have h3 := hel i hi
      rw [hc, Nat.mul_one] at h3
      have hxi : xs[i]? = some (xs[i]'(by omega)) := List.getElem?_eq_getElem _
      rw [hxi] at h3
      obtain ⟨n, e1, e2, _⟩ := DataW.trod_int he h3
      have e3 : (xs.map (·.1))[i]? = (l.map fun n => (DataW.lit (Lit.int k n) : DataW Unit))[i]? := by rw [← hx.1]
      rw [List.getElem?_map, hxi, List.getElem?_map, List.getElem?_eq_getElem hi] at e3
      simp only [Option.map_some, Option.some.injEq, e2, DataW.lit.injEq, Lit.int.injEq, true_and] at e3
      have e4 : (cs.toList.drop i).take 1 = [cs.toList[i]] := by
        rw [List.drop_eq_getElem_cons h1]; simp
      rw [e4] at e1
      simp only [List.cons.injEq, and_true] at e1
      rw [e1, e3]
      simp [numsV]
  unfold World.var? at hv
  rw [hg] at hv
  simp only [Option.bind_some] at hv
  split at hv
  · rename_i c e' fr hb
    cases hv
    exact ⟨e', fr, by rw [hb, ← hcs]⟩
  · cases hv

/-- A listed variable: its name, kind, numbers; its number and types. -/
structure Listed where
  name : String
  k : IntKind
  l : List Int
  g : Nat
  t : TypeId
  e : TypeId
def Listed.met (P : Program) (s : Listed) : Prop := P.globalNamed s.name = some s.g ∧ (P.globals[s.g]?).map (·.type) = some s.t ∧ P.underlying s.t = some (.array s.l.length s.e) ∧ P.underlying s.e = some (.int s.k) ∧ P.cellsOf s.e = 1 ∧ P.cellsOf s.t = s.l.length
def listedV (ss : List Listed) : List (Nat × List Value) := ss.map fun s => (s.g, numsV s.k s.l)
theorem laid_vars {P : Program} {W : World} : ∀ (ss : List Listed) (ps : List MemPlace), (∀ s ∈ ss, s.met P) →
    DataW.LaidVars P W (ss.map fun s => (s.name, numsD s.k s.l)) ps → Laid (listedV ss) W
  | [], _, _, _ => fun _ h => by cases h
  | s :: ss, ps, hs, h => by
    obtain ⟨g, t, cs, fuel, p, q, h1, h2, h3, h4, h5, _⟩ := h
    obtain ⟨m1, m2, m3, m4, m5, m6⟩ := hs s (by simp)
    obtain rfl := Option.some.inj (m1.symm.trans h1)
    obtain rfl := Option.some.inj (m2.symm.trans h2)
    have ih := laid_vars ss q (fun x hx => hs x (List.mem_cons_of_mem _ hx)) h5
    intro x hx
    simp only [listedV, List.map_cons, List.mem_cons] at hx
    rcases hx with rfl | hx
    · exact laid_one h3 h4 m1 m3 m4 m5 m6
    · exact ih x hx
theorem laid_all {P : Program} {W : World} (ss : List Listed) (hs : ∀ s ∈ ss, s.met P) (h : laidMetH P (ss.map fun s => (s.name, numsD s.k s.l)) W) : Laid (listedV ss) W := by
  rw [MakeChecks.laidMetH_plain _ _ _ (by
    rw [List.all_eq_true]
    intro x hx
    obtain ⟨s, _, rfl⟩ := List.mem_map.1 hx
    rfl)] at h
  obtain ⟨ps, hv, _⟩ := h
  exact laid_vars ss ps hs hv

end Go.Proofs.YtmacjmofhaghbaaDoor.Sy
end

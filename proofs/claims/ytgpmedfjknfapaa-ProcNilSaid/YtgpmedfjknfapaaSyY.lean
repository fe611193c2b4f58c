/-
  A symbolic evaluator for the model's code: package variables that the row lists: arrays of bytes.
-/
import Derived.Test.YtgpmedfjknfapaaSyX
import Derived.OpenShut
import Derived.MakeChecks
import Derived.LaidHandle
noncomputable section
namespace Go.Proofs.Ytgpmedfjknfapaa.Sy
open Go

/-- What a row lists of an array of bytes. -/
def bytesD {H : Type} (l : List Nat) : DataW H := .agg (l.map fun n => .lit (.int .u8 (n : Nat)))
def bytesV (l : List Nat) : List Value := l.map fun n => .int .u8 (n : Nat)

theorem laid_bytes {P : Program} {name : String} {l : List Nat} {g : Nat} {t e : TypeId} {W : World} (h : laidMetH P [(name, bytesD l)] W)
    (hg : P.globalNamed name = some g) (ht : (P.globals[g]?).map (·.type) = some t) (hu : P.underlying t = some (.array l.length e)) (he : P.underlying e = some (.int .u8)) (hc : P.cellsOf e = 1)
    (hct : P.cellsOf t = l.length) : Laid [(g, bytesV l)] W := by
  rw [MakeChecks.laidMetH_plain _ _ _ (by rfl)] at h
  obtain ⟨ps, ⟨g0, t0, cs, f0, p0, q0, hg0, ht0, hv, hd, _, _⟩, _⟩ := h
  obtain rfl := Option.some.inj (hg.symm.trans hg0)
  obtain rfl := Option.some.inj (ht.symm.trans ht0)
  obtain ⟨xs, m, _, hx, hlen, hn, hel⟩ := DataW.trod_array hu hd
  simp only [Prod.mk.injEq, bytesD, DataW.agg.injEq] at hx
  have hcs : cs.toList = bytesV l := by
    apply List.ext_getElem
    · rw [hlen, hct]; simp [bytesV]
    · intro i h1 h2
      have hi : i < l.length := by simpa [bytesV] using h2
      have h3 := hel i hi
      rw [hc, Nat.mul_one] at h3
      have hxi : xs[i]? = some (xs[i]'(by omega)) := List.getElem?_eq_getElem _
      rw [hxi] at h3
      obtain ⟨n, e1, e2, _⟩ := DataW.trod_int he h3
      have e3 : (xs.map (·.1))[i]? = (l.map fun n => (DataW.lit (Lit.int .u8 (n : Nat)) : DataW Unit))[i]? := by rw [← hx.1]
      rw [List.getElem?_map, hxi, List.getElem?_map, List.getElem?_eq_getElem hi] at e3
      simp only [Option.map_some, Option.some.injEq, e2, DataW.lit.injEq, Lit.int.injEq, true_and] at e3
      have e4 : (cs.toList.drop i).take 1 = [cs.toList[i]] := by
        rw [List.drop_eq_getElem_cons h1]; simp
      rw [e4] at e1
      simp only [List.cons.injEq, and_true] at e1
      rw [e1, e3]
      simp [bytesV]
  unfold World.var? at hv
  rw [hg] at hv
  simp only [Option.bind_some] at hv
  intro p hp
  simp only [List.mem_singleton] at hp
  subst hp
  split at hv
  · rename_i c e' fr hb
    cases hv
    exact ⟨e', fr, by rw [hb, ← hcs]⟩
  · cases hv

end Go.Proofs.Ytgpmedfjknfapaa.Sy
end

/-
  A symbolic evaluator for the model's code: what one operation does is what the model does: makes, builds, builtins.
-/
import Derived.Test.YtmacjmofhaghbaaDoorSyI
noncomputable section
namespace Go.Proofs.YtmacjmofhaghbaaDoor.Sy
open Go

section
variable {P : Program} {ρ : Env} {st : St} {w : World}

/-! ## filling rows -/
theorem fold_set : ∀ (vs : List Value) (off k : Nat) (cur : List Value), off + k + vs.length ≤ cur.length →
    ((vs.zipIdx k).foldl (fun cs p => cs.setIfInBounds (off + p.2) p.1) cur.toArray) = (cur.take (off + k) ++ vs ++ cur.drop (off + k + vs.length)).toArray
  | [], off, k, cur, h => by simp
  | v :: vs, off, k, cur, h => by
    simp only [List.length_cons] at h
    have hi : off + k < cur.length := by omega
    simp only [List.zipIdx_cons, List.foldl_cons]
    have e : cur.toArray.setIfInBounds (off + k) v = (cur.set (off + k) v).toArray := by simp
    rw [e, fold_set vs off (k + 1) (cur.set (off + k) v) (by simp; omega)]
    have e1 : (cur.set (off + k) v).take (off + (k + 1)) = cur.take (off + k) ++ [v] := by
      rw [show off + (k + 1) = off + k + 1 by omega, List.take_succ_eq_append_getElem (by simp; omega)]
      rw [List.take_set, List.set_eq_of_length_le (by simp only [List.length_take]; omega)]
      simp
    have e2 : (cur.set (off + k) v).drop (off + (k + 1) + vs.length) = cur.drop (off + k + (vs.length + 1)) := by
      rw [List.drop_set_of_lt (by omega)]
      congr 1; omega
    rw [e1, e2]
    simp

theorem fillV_spec {places : List (Nat × Nat)} {place : Nat → Option (Nat × Nat)} (hpl : ∀ i q, places[i]? = some q → place i = some q) :
    ∀ {parts : List (Nat × V)} {cells l : List V}, fillV places cells parts = some l →
    Instr.fill place (V.dens ρ cells).toArray (parts.map fun p => (p.1, p.2.den ρ)) = some (V.dens ρ l).toArray
  | [], cells, l, h => by simp only [fillV, Option.some.injEq] at h; subst h; simp [Instr.fill]
  | p :: parts, cells, l, h => by
    unfold fillV at h
    cases hq : places[p.1]? with
    | none => simp [hq] at h
    | some q =>
      simp only [hq] at h
      cases hb : Nat.beq p.2.cells.length q.2 && p.2.cells.all V.one
      · simp [hb] at h
      · rw [Bool.and_eq_true] at hb
        simp only [hb.1, hb.2, Bool.and_self, ift_true] at h
        have hlen := Nat.eq_of_beq_eq_true hb.1
        cases hs : splice cells q.1 p.2.cells with
        | none => simp [hs] at h
        | some c =>
          simp only [hs] at h
          have ih := fillV_spec hpl h
          obtain ⟨s1, s2⟩ := splice_spec hs
          have hd := dens_splice (ρ := ρ) hs
          have hc := cells_of_ones (ρ := ρ) hb.2
          simp only [List.map_cons, Instr.fill, hpl _ _ hq]
          have hsz : (p.2.den ρ).cells.size = q.2 := by rw [hc]; simp [dens_length, hlen]
          have hcond : ((decide ((p.2.den ρ).cells.size ≠ q.2)) || decide (q.1 + (p.2.den ρ).cells.size > (V.dens ρ cells).toArray.size)) = false := by
            rw [hsz]; simp [dens_length]; omega
          rw [if_neg (by rw [hcond]; decide)]
          have hf : (p.2.den ρ).cells.zipIdx.foldl (fun cs x => cs.setIfInBounds (q.1 + x.2) x.1) (V.dens ρ cells).toArray = (V.dens ρ c).toArray := by
            rw [hc, hd, ← Array.foldl_toList, Array.toList_zipIdx]
            have := fold_set (V.dens ρ p.2.cells) q.1 0 (V.dens ρ cells) (by rw [dens_length, dens_length]; omega)
            simpa using this
          have hf' : (p.2.den ρ).cells.zipIdx.foldl (fun cs x => match x with | (c, j) => cs.setIfInBounds (q.1 + j) c) (V.dens ρ cells).toArray = (V.dens ρ c).toArray := hf
          rw [hf']
          exact ih

theorem fillV_ok {places : List (Nat × Nat)} : ∀ {parts : List (Nat × V)} {cells l : List V}, fillV places cells parts = some l → V.oks ρ cells → (∀ p ∈ parts, p.2.ok ρ) → V.oks ρ l ∧ l.length = cells.length
  | [], cells, l, h, hc, _ => by simp only [fillV, Option.some.injEq] at h; subst h; exact ⟨hc, rfl⟩
  | p :: parts, cells, l, h, hc, hp => by
    unfold fillV at h
    cases hq : places[p.1]? with
    | none => simp [hq] at h
    | some q =>
      simp only [hq] at h
      cases hb : Nat.beq p.2.cells.length q.2 && p.2.cells.all V.one
      · simp [hb] at h
      · simp only [hb, ift_true] at h
        cases hs : splice cells q.1 p.2.cells with
        | none => simp [hs] at h
        | some c =>
          simp only [hs] at h
          have hv := hp p List.mem_cons_self
          have hvc : V.oks ρ p.2.cells := by
            cases hx : p.2 with
            | agg l => rw [hx] at hv; simpa only [V.cells, V.ok] using hv
            | _ => rw [hx] at hv; simp only [V.cells, V.oks, and_true]; exact hv
          obtain ⟨i1, i2⟩ := fillV_ok h (oks_splice hc hvc hs) fun x hx => hp x (List.mem_cons_of_mem _ hx)
          exact ⟨i1, by rw [i2, splice_len hs]⟩

theorem repeat_spec (z : List Value) (s : Nat) (hs : z.length = s) (h0 : 0 < s) : ∀ n, (List.range (n * s)).map (fun i => z.toArray[i % z.toArray.size]!) = repeatL z n
  | 0 => by simp [repeatL]
  | n + 1 => by
    have e : (n + 1) * s = s + n * s := by rw [Nat.succ_mul]; omega
    rw [e, List.range_add, List.map_append, List.map_map]
    have h1 : (List.range s).map (fun i => z.toArray[i % z.toArray.size]!) = z := by
      apply List.ext_getElem
      · simp [hs]
      · intro i hi1 hi2
        simp only [List.length_map, List.length_range] at hi1
        simp [hs, Nat.mod_eq_of_lt hi1, List.getElem?_eq_getElem hi2]
    have h2 : (fun i => z.toArray[i % z.toArray.size]!) ∘ (fun x => s + x) = fun i => z.toArray[i % z.toArray.size]! := by
      funext i
      simp [hs]
    rw [h1, h2, repeat_spec z s hs h0 n]
    rfl

theorem dens_repeat (z : List V) : ∀ n, V.dens ρ (repeatL z n) = repeatL (V.dens ρ z) n
  | 0 => by simp [repeatL, V.dens]
  | n + 1 => by simp only [repeatL, dens_append, dens_repeat z n]
theorem oks_repeat {z : List V} (h : V.oks ρ z) : ∀ n, V.oks ρ (repeatL z n)
  | 0 => by simp [repeatL, V.oks]
  | n + 1 => by simp only [repeatL]; rw [oks_append]; exact ⟨h, oks_repeat h n⟩
theorem len_repeat {α : Type} (z : List α) : ∀ n, (repeatL z n).length = n * z.length
  | 0 => by simp [repeatL]
  | n + 1 => by simp only [repeatL, List.length_append, len_repeat z n, Nat.succ_mul]; omega

theorem allSome_mapM {α β : Type} (g : α → Option β) : ∀ {l : List α} {m : List β}, allSome (l.map g) = some m → l.mapM g = some m
  | [], m, h => by simp only [List.map_nil, allSome, Option.some.injEq] at h; subst h; rfl
  | a :: l, m, h => by
    simp only [List.map_cons] at h
    cases hg : g a with
    | none => simp [hg, allSome] at h
    | some b =>
      rw [hg] at h
      simp only [allSome] at h
      cases hr : allSome (l.map g) with
      | none => simp [hr] at h
      | some q =>
        simp only [hr, Option.some.injEq] at h
        subst h
        rw [List.mapM_cons, hg, allSome_mapM g hr]; rfl

/-! ## values that are made -/
theorem buildR_sound (t : TypeId) (parts : List (Nat × V)) (hv : ∀ p ∈ parts, p.2.ok ρ) :
    VS ρ st w ((Instr.build t (parts.map fun p => (p.1, p.2.den ρ)).toArray).run P w) (buildR P t parts) := by
  unfold buildR
  cases hz : zeroT P t with
  | none => trivial
  | some z =>
    cases hps : placesOf P t with
    | none => trivial
    | some ps =>
      dsimp only
      cases hf : fillV ps z.cells parts with
      | none => trivial
      | some l =>
        have hz0 := hz
        unfold zeroT at hz
        cases hi : P.info? t with
        | none => simp [hi] at hz
        | some it =>
          cases hiz : it.zero with
          | none => simp [hi, hiz] at hz
          | some zv =>
            simp only [hi, hiz, Option.some.injEq] at hz
            subst hz
            obtain ⟨d1, d2⟩ := den_ofValue ρ zv
            have hzc : (V.dens ρ (ofValue zv).cells).toArray = zv.cells := by
              cases zv with
              | agg cs =>
                simp only [ofValue, V.cells, Value.cells, dens_map, List.map_map]
                have : (V.den ρ ∘ ofCell) = id := funext fun v => (den_ofCell ρ v).1
                rw [this, List.map_id]
              | func fn f c =>
                simp only [Value.cells]
                have : (ofValue (.func fn f c)).cells = [ofValue (.func fn f c)] := by
                  simp only [ofValue]; split <;> rfl
                rw [this]; simp only [V.dens, d1]
              | string s =>
                have : (ofValue (.string s)).cells = [ofValue (.string s)] := rfl
                rw [this]; simp only [V.dens, d1, Value.cells]
              | _ => simp only [ofValue, ofCell, V.cells, V.dens, V.den, Value.cells, E.den]; try (rename_i b; cases b <;> rfl)
            have hzok : V.oks ρ (ofValue zv).cells := by
              cases hx : ofValue zv with
              | agg l => rw [hx] at d2; simpa only [V.cells, V.ok] using d2
              | _ => rw [hx] at d2; simp only [V.cells, V.oks, and_true]; exact d2
            refine ⟨?_, by simp only [V.ok]; exact (fillV_ok hf hzok hv).1⟩
            rw [run_build w t _ (V.dens ρ l).toArray ?_]
            · simp only [V.den]
            · unfold Program.built
              unfold placesOf at hps
              cases hu : P.underlying t with
              | none => simp [hu] at hps
              | some d =>
                simp only [hi]
                cases d <;> simp only [hu, reduceCtorEq] at hps
                case array n e =>
                  cases hs : sizeT P e with
                  | none => simp [hs] at hps
                  | some s =>
                    simp only [hs, Option.some.injEq] at hps
                    subst hps
                    unfold sizeT at hs
                    cases hie : P.info? e with
                    | none => simp [hie] at hs
                    | some ie =>
                      simp only [hie, Option.some.injEq] at hs
                      simp only [hiz, hie, hs]
                      rw [← hzc]
                      refine fillV_spec (fun i q hq => ?_) hf
                      rw [List.getElem?_map] at hq
                      cases hr : (List.range n)[i]? with
                      | none => simp [hr] at hq
                      | some j =>
                        simp only [hr, Option.map_some, Option.some.injEq] at hq
                        have := (List.getElem?_eq_some_iff.1 hr).2
                        simp only [List.getElem_range] at this
                        subst this; subst hq; rfl
                case struct fields =>
                  have hm := allSome_mapM _ hps
                  have hm' : fields.toList.mapM (fun f => (P.info? f.type).map fun i => (f.offset, i.size)) = some ps := by
                    rw [← hm]; congr 1; funext f; unfold sizeT; cases P.info? f.type <;> rfl
                  simp only [hiz, hm']
                  rw [← hzc]
                  exact fillV_spec (fun i q hq => by simpa using hq) hf

theorem zero_cells {t : TypeId} {z : V} (hz : zeroT P t = some z) (h1 : z.cells.all V.one = true) :
    ∃ zv, (zeroValue t).run P w = .ok zv w ∧ zv.cells = (V.dens ρ z.cells).toArray ∧ V.oks ρ z.cells := by
  obtain ⟨r1, r2⟩ := run_zeroT (w := w) (ρ := ρ) hz
  refine ⟨_, r1, cells_of_ones h1, ?_⟩
  cases hx : z with
  | agg l => rw [hx] at r2; simpa only [V.cells, V.ok] using r2
  | _ => rw [hx] at r2; simp only [V.cells, V.oks, and_true]; exact r2

theorem buildSliceR_sound (hr : Rep ρ st w) (t : TypeId) (n : Nat) (parts : List (Nat × V)) (hv : ∀ p ∈ parts, p.2.ok ρ) :
    VS ρ st w ((Instr.buildSlice t n (parts.map fun p => (p.1, p.2.den ρ)).toArray).run P w) (buildSliceR P st t n parts) := by
  unfold buildSliceR
  cases hu : P.underlying t with
  | none => trivial
  | some d =>
    cases d <;> try trivial
    case slice e =>
      dsimp only
      cases hs : sizeT P e with
      | none => trivial
      | some s =>
        cases hz : zeroT P e with
        | none => trivial
        | some z =>
          dsimp only
          cases hb : Nat.ble (n * s) 10000 && Nat.blt 0 s && Nat.beq z.cells.length s && z.cells.all V.one
          · trivial
          · simp only [Bool.and_eq_true] at hb
            simp only [ift_true]
            have h1 := Nat.le_of_ble_eq_true hb.1.1.1
            have h2 : 0 < s := by simpa [Nat.blt_eq] using hb.1.1.2
            have h3 := Nat.eq_of_beq_eq_true hb.1.2
            cases hf : fillV ((List.range n).map fun i => (i * s, s)) (repeatL z.cells n) parts with
            | none => trivial
            | some l =>
              obtain ⟨zv, z1, z2, z3⟩ := zero_cells (w := w) (ρ := ρ) hz hb.2
              obtain ⟨o1, o2⟩ := fillV_ok hf (oks_repeat z3 n) hv
              refine ⟨w.alloc (.cells (V.dens ρ l).toArray e), ?_, ?_, hr.alloc ⟨[], by simp, o1, rfl⟩ (by simp)⟩
              · have hspec := fillV_spec (ρ := ρ) (place := fun i => some (i * s, s)) (fun i q hq => by
                  rw [List.getElem?_map] at hq
                  cases hr : (List.range n)[i]? with
                  | none => simp [hr] at hq
                  | some j =>
                    simp only [hr, Option.map_some, Option.some.injEq] at hq
                    have := (List.getElem?_eq_some_iff.1 hr).2
                    simp only [List.getElem_range] at this
                    subst this; subst hq; rfl) hf
                rw [dens_repeat, ← repeat_spec (V.dens ρ z.cells) s (by rw [dens_length]; exact h3) h2 n] at hspec
                have hrow : (Array.range (n * s)).map (fun i => ((V.dens ρ z.cells).toArray)[i % (V.dens ρ z.cells).toArray.size]!) =
                    ((List.range (n * s)).map fun i => (V.dens ρ z.cells).toArray[i % (V.dens ρ z.cells).toArray.size]!).toArray := by
                  apply Array.toList_inj.1
                  simp
                have hlim : ¬ (n * s > 2 ^ 24) := by omega
                by_cases h0 : n * s = 0
                · rw [h0] at hspec
                  simp only [List.range_zero, List.map_nil] at hspec
                  have hr0 : ∀ f : Nat → Value, Array.map f (Array.range 0) = #[] := fun f => by simp
                  have hl0 : ¬ (0 > 2 ^ 24) := by decide
                  simp only [Instr.buildSlice, run_underlying hu, Sem.run_bind, Result.andThen_ok, run_sizeT hs, if_false, h0, hl0, if_true, hr0, hspec, newRow, run_newObj, Sem.run_pure, V.den, B.no, E.den, Int.toNat_natCast, hr.size]
                  rfl
                · simp only [Instr.buildSlice, run_underlying hu, Sem.run_bind, Result.andThen_ok, run_sizeT hs, hlim, if_false, h0, z1, z2, hrow, hspec, newRow, run_newObj, Sem.run_pure, V.den, B.no, E.den, Int.toNat_natCast, hr.size]
                  rfl
              · simp only [V.ok, E.ok, E.den]; exact ⟨trivial, trivial, by omega, by omega⟩

theorem makeSliceR_sound (hr : Rep ρ st w) (hp : st.pc.holds ρ) (t : TypeId) {l c : V} (hl : l.ok ρ) (hc : c.ok ρ) :
    VS ρ st w ((Instr.makeSlice t (l.den ρ) (c.den ρ)).run P w) (makeSliceR P st t l c) := by
  unfold makeSliceR
  cases hu : P.underlying t with
  | none => trivial
  | some d =>
    cases d <;> try trivial
    case slice e =>
      cases l <;> try trivial
      case int kl l =>
        cases c <;> try trivial
        case int kc c =>
          simp only [V.ok] at hl hc
          dsimp only
          have needc : ∀ n, (E.eq c (.lit n)).ok ρ := fun n => ⟨hc, trivial⟩
          have needl : ∀ n, (E.eq l (.lit n)).ok ρ := fun n => ⟨hl, trivial⟩
          obtain ⟨l1, _⟩ := PC.re_spec hp hl
          obtain ⟨c1, _⟩ := PC.re_spec hp hc
          split
          · rename_i s z ln cn hs hz hrl hrc
            rw [hrl] at l1; rw [hrc] at c1
            simp only [E.den] at l1 c1
            cases hb : ile 0 ln && ile ln cn && ile cn 10000 && Nat.blt 0 s && Nat.beq z.cells.length s && z.cells.all V.one && smallT P e
            · trivial
            · simp only [Bool.and_eq_true, ile_iff] at hb
              simp only [ift_true]
              obtain ⟨⟨⟨⟨⟨⟨b1, b2⟩, b3⟩, b4⟩, b5⟩, b6⟩, b7⟩ := hb
              have h2 : 0 < s := by simpa [Nat.blt_eq] using b4
              have h3 := Nat.eq_of_beq_eq_true b5
              obtain ⟨zv, z1, z2, z3⟩ := zero_cells (w := w) (ρ := ρ) hz b6
              unfold smallT at b7
              cases hby : bytesT P e with
              | none => simp [hby] at b7
              | some bytes =>
                simp only [hby] at b7
                have b7' := Nat.le_of_ble_eq_true b7
                obtain ⟨ie, hie, hib⟩ := bytesT_spec hby
                refine ⟨w.alloc (.cells (V.dens ρ (repeatL z.cells cn.toNat)).toArray e), ?_, ?_, hr.alloc ⟨[], by simp, oks_repeat z3 _, rfl⟩ (by simp)⟩
                · have hrow : (Array.range (cn.toNat * s)).map (fun i => ((V.dens ρ z.cells).toArray)[i % (V.dens ρ z.cells).toArray.size]!) = (V.dens ρ (repeatL z.cells cn.toNat)).toArray := by
                    rw [dens_repeat, ← repeat_spec (V.dens ρ z.cells) s (by rw [dens_length]; exact h3) h2 cn.toNat]
                    apply Array.toList_inj.1
                    simp
                  have wl : IntKind.i64.wrap ln = ln := by rw [← wrapF_eq, wrapF_id] <;> simp only [kmin, kmax] <;> omega
                  have wc : IntKind.i64.wrap cn = cn := by rw [← wrapF_eq, wrapF_id] <;> simp only [kmin, kmax] <;> omega
                  have hti : (typeInfo e).run P w = .ok ie w := by simp [typeInfo, hie]
                  have hmul : (bytes : Int) * cn ≤ 10000000000 := by
                    have q1 : (bytes : Int) ≤ 1000000 := by omega
                    have q2 : (bytes : Int) * cn ≤ 1000000 * cn := Int.mul_le_mul_of_nonneg_right q1 (by omega)
                    omega
                  have hlarge : (decide (cn < 0) || decide ((bytes : Int) * cn > 2 ^ 48) || decide (ln < 0) || decide (ln > cn)) = false := by
                    simp only [Int.reducePow, Bool.or_eq_false_iff, decide_eq_false_iff_not]; omega
                  by_cases h0 : cn.toNat * s = 0
                  · rw [h0] at hrow
                    have hr0 : ∀ f : Nat → Value, Array.map f (Array.range 0) = #[] := fun f => by simp
                    rw [hr0] at hrow
                    simp only [Instr.makeSlice, run_underlying hu, Sem.run_bind, Result.andThen_ok, V.den, asInt, asIntOf, Sem.run_pure, ← l1, ← c1, wl, wc, hti, hib, hlarge, Bool.false_eq_true, if_false, run_askRoom,
                      run_sizeT hs, h0, if_true, hr0, ← hrow, newRow, run_newObj, B.no, E.den, hr.size]
                    rfl
                  · simp only [Instr.makeSlice, run_underlying hu, Sem.run_bind, Result.andThen_ok, V.den, asInt, asIntOf, Sem.run_pure, ← l1, ← c1, wl, wc, hti, hib, hlarge, Bool.false_eq_true, if_false, run_askRoom,
                      run_sizeT hs, h0, z1, z2, hrow, newRow, run_newObj, B.no, E.den, hr.size]
                    rfl
                · simp only [V.ok, E.ok, E.den]; exact ⟨trivial, trivial, by omega, by omega⟩
          · exact needc _
          · exact needl _

end
end Go.Proofs.YtmacjmofhaghbaaDoor.Sy
end

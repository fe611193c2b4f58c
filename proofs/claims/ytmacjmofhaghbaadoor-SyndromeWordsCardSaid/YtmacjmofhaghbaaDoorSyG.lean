/-
  A symbolic evaluator for the model's code: what one operation does is what the model does (loads, stores, addresses, making of values).
-/
import Derived.Test.YtmacjmofhaghbaaDoorSyF
noncomputable section
namespace Go.Proofs.YtmacjmofhaghbaaDoor.Sy
open Go

/-! ## lists -/
theorem sub_spec {α : Type} : ∀ {l : List α} {o n : Nat} {m : List α}, sub l o n = some m → m = (l.drop o).take n ∧ o + n ≤ l.length
  | l, 0, n, m, h => by
    have go : ∀ {l : List α} {n : Nat} {m : List α}, sub.go l n = some m → m = l.take n ∧ n ≤ l.length := by
      intro l
      induction l with
      | nil => intro n m h; cases n <;> simp [sub.go] at h; subst h; simp
      | cons a l ih =>
        intro n m h
        cases n with
        | zero => simp [sub.go] at h; subst h; simp
        | succ n =>
          simp only [sub.go] at h
          cases hg : sub.go l n with
          | none => simp [hg] at h
          | some q =>
            simp only [hg, Option.some.injEq] at h
            subst h
            obtain ⟨h1, h2⟩ := ih hg
            exact ⟨by rw [h1]; rfl, by simp only [List.length_cons]; omega⟩
    have : sub l 0 n = sub.go l n := by cases l <;> rfl
    rw [this] at h
    obtain ⟨h1, h2⟩ := go h
    exact ⟨by simpa using h1, by omega⟩
  | [], o + 1, n, m, h => by simp [sub] at h
  | a :: l, o + 1, n, m, h => by
    have : sub (a :: l) (o + 1) n = sub l o n := rfl
    rw [this] at h
    obtain ⟨h1, h2⟩ := sub_spec h
    exact ⟨by simpa using h1, by simp only [List.length_cons]; omega⟩

theorem splice_spec {α : Type} : ∀ {l : List α} {o : Nat} {vs m : List α}, splice l o vs = some m → m = l.take o ++ vs ++ l.drop (o + vs.length) ∧ o + vs.length ≤ l.length
  | l, 0, vs, m, h => by
    have go : ∀ {vs l : List α} {m : List α}, splice.go l vs = some m → m = vs ++ l.drop vs.length ∧ vs.length ≤ l.length := by
      intro vs
      induction vs with
      | nil => intro l m h; cases l <;> simp [splice.go] at h <;> subst h <;> simp
      | cons v vs ih =>
        intro l m h
        cases l with
        | nil => simp [splice.go] at h
        | cons a l =>
          simp only [splice.go] at h
          cases hg : splice.go l vs with
          | none => simp [hg] at h
          | some q =>
            simp only [hg, Option.some.injEq] at h
            subst h
            obtain ⟨h1, h2⟩ := ih hg
            exact ⟨by rw [h1]; rfl, by simp only [List.length_cons]; omega⟩
    have : splice l 0 vs = splice.go l vs := by cases l <;> rfl
    rw [this] at h
    obtain ⟨h1, h2⟩ := go h
    exact ⟨by simpa using h1, by omega⟩
  | [], o + 1, vs, m, h => by simp [splice] at h
  | a :: l, o + 1, vs, m, h => by
    simp only [splice] at h
    cases hg : splice l o vs with
    | none => simp [hg] at h
    | some q =>
      simp only [hg, Option.some.injEq] at h
      subst h
      obtain ⟨h1, h2⟩ := splice_spec hg
      have e : o + 1 + vs.length = (o + vs.length) + 1 := by omega
      exact ⟨by rw [h1, e]; rfl, by simp only [List.length_cons]; omega⟩

theorem splice_len {α : Type} {l : List α} {o : Nat} {vs m : List α} (h : splice l o vs = some m) : m.length = l.length := by
  obtain ⟨h1, h2⟩ := splice_spec h
  rw [h1]; simp only [List.length_append, List.length_take, List.length_drop]; omega

theorem oks_sub {ρ : Env} {cs l : List V} {o n : Nat} (h : V.oks ρ cs) (hs : sub cs o n = some l) : V.oks ρ l := by
  obtain ⟨rfl, _⟩ := sub_spec hs
  rw [oks_iff] at h ⊢
  exact fun v hv => h v (List.mem_of_mem_drop (List.mem_of_mem_take hv))
theorem oks_get {ρ : Env} {cs : List V} {o : Nat} {v : V} (h : V.oks ρ cs) (hs : cs[o]? = some v) : v.ok ρ := by
  rw [oks_iff] at h
  exact h v (List.mem_of_getElem? hs)
theorem oks_splice {ρ : Env} {cs vs l : List V} {o : Nat} (h : V.oks ρ cs) (hv : V.oks ρ vs) (hs : splice cs o vs = some l) : V.oks ρ l := by
  obtain ⟨rfl, _⟩ := splice_spec hs
  rw [oks_append, oks_append]
  rw [oks_iff] at h
  refine ⟨⟨?_, hv⟩, ?_⟩
  · rw [oks_iff]; exact fun v hv => h v (List.mem_of_mem_take hv)
  · rw [oks_iff]; exact fun v hv => h v (List.mem_of_mem_drop hv)
theorem dens_splice {ρ : Env} {cs vs l : List V} {o : Nat} (hs : splice cs o vs = some l) :
    V.dens ρ l = (V.dens ρ cs).take o ++ V.dens ρ vs ++ (V.dens ρ cs).drop (o + (V.dens ρ vs).length) := by
  obtain ⟨rfl, _⟩ := splice_spec hs
  simp only [dens_map, List.map_append, List.map_take, List.map_drop, List.length_map]

/-! ## the types' words -/
section
variable {P : Program} {w : World}

theorem run_sizeT {t : TypeId} {n : Nat} (h : sizeT P t = some n) : (sizeOf t).run P w = .ok n w := by
  unfold sizeT at h
  cases hi : P.info? t with
  | none => simp [hi] at h
  | some i =>
    simp only [hi, Option.some.injEq] at h
    simp [sizeOf, typeInfo, hi, h]

theorem run_isAgg {t : TypeId} {d : TypeDesc} (h : P.underlying t = some d) : (isAgg t).run P w = .ok (aggD d) w := by
  unfold isAgg
  rw [Sem.run_bind, run_underlying h w]
  cases d <;> rfl

theorem run_zeroT {ρ : Env} {t : TypeId} {z : V} (h : zeroT P t = some z) : (zeroValue t).run P w = .ok (z.den ρ) w ∧ z.ok ρ := by
  unfold zeroT at h
  cases hi : P.info? t with
  | none => simp [hi] at h
  | some i =>
    cases hz : i.zero with
    | none => simp [hi, hz] at h
    | some v =>
      simp only [hi, hz, Option.some.injEq] at h
      subst h
      obtain ⟨h1, h2⟩ := den_ofValue ρ v
      rw [h1]
      exact ⟨by simp [zeroValue, typeInfo, hi, hz], h2⟩

theorem bytesT_spec {t : TypeId} {n : Nat} (h : bytesT P t = some n) : ∃ i, P.info? t = some i ∧ i.bytes = n := by
  unfold bytesT at h
  cases hi : P.info? t with
  | none => simp [hi] at h
  | some i => simp only [hi, Option.some.injEq] at h; exact ⟨i, rfl, h⟩

theorem fieldOf_spec {t : TypeId} {f : Nat} {fd : Field} (h : fieldOf P t f = some fd) : ∃ fs, P.underlying t = some (.struct fs) ∧ fs[f]? = some fd := by
  unfold fieldOf at h
  cases hu : P.underlying t with
  | none => simp [hu] at h
  | some d =>
    cases d <;> simp only [hu, reduceCtorEq] at h
    rename_i fs
    exact ⟨fs, rfl, by simpa using h⟩

/-! ## cells -/
theorem den_cells (ρ : Env) (v : V) : (v.den ρ).cells = (V.dens ρ v.cells).toArray ∨ (∃ c, v = .lit (.agg c)) ∨ (∃ g u, v = .opt g u) ∨ (∃ j, v = .hole j) := by
  cases v with
  | opt g u => exact .inr (.inr (.inl ⟨g, u, rfl⟩))
  | hole j => exact .inr (.inr (.inr ⟨j, rfl⟩))
  | lit v =>
    cases v
    case agg c => exact .inr (.inl ⟨c, rfl⟩)
    all_goals exact .inl (by simp [V.cells, V.den, V.dens, Value.cells])
  | agg l => exact .inl (by simp only [V.cells, V.den, Value.cells])
  | _ => exact .inl (by simp [V.cells, V.den, V.dens, Value.cells])

theorem one_cell {ρ : Env} {v : V} (h : v.one = true) : (v.den ρ).oneCell' = true := by
  cases v with
  | lit v => cases v <;> simp_all [V.one, V.den, Value.oneCell']
  | agg l => simp [V.one] at h
  | tup l => simp [V.one] at h
  | opt g v => simp [V.one] at h
  | hole j => simp [V.one] at h
  | _ => simp [V.den, Value.oneCell']

theorem cells_of_ones {ρ : Env} {v : V} (h : v.cells.all V.one = true) : (v.den ρ).cells = (V.dens ρ v.cells).toArray := by
  rcases den_cells ρ v with h' | ⟨c, rfl⟩ | ⟨g, u, rfl⟩ | ⟨j, rfl⟩
  · exact h'
  · simp [V.cells, V.one] at h
  · simp [V.cells, V.one] at h
  · simp [V.cells, V.one] at h

theorem cell_at {g j : Nat} {l : List Value} {e : TypeId} {fr : Nat × Nat} (h : w.heap[g]? = some (.cells l.toArray e fr)) : w.cell? ⟨g, j, none⟩ = l[j]? := by
  simp [World.cell?, h]

theorem Addr.add_none (g o j : Nat) : (⟨g, o, none⟩ : Addr).add j = ⟨g, o + j, none⟩ := by
  unfold Addr.add
  split
  · rename_i h; subst h; rfl
  · rfl

theorem run_loadVar {ρ : Env} {t : TypeId} {g o : Nat} {cs : List V} {rest : List Value} {e : TypeId} {fr : Nat × Nat} {v : V}
    (hb : w.heap[g]? = some (.cells (V.dens ρ cs ++ rest).toArray e fr)) (hp : partV P t cs o = some v) : (loadVar t ⟨g, o, none⟩).run P w = .ok (v.den ρ) w := by
  unfold partV at hp
  cases hu : P.underlying t with
  | none => simp [hu] at hp
  | some d =>
    simp only [hu] at hp
    cases hd : aggD d
    · simp only [hd, ift_false] at hp
      have hlt : o < cs.length := (List.getElem?_eq_some_iff.1 hp).1
      have hc : w.cell? ⟨g, o, none⟩ = some (v.den ρ) := by
        rw [cell_at hb, List.getElem?_append_left (by rw [dens_length]; exact hlt), dens_map, List.getElem?_map, hp]; rfl
      simp [loadVar, run_isAgg hu, hd, hc]
    · simp only [hd, ift_true] at hp
      cases hn : sizeT P t with
      | none => simp [hn] at hp
      | some n =>
        cases hs : sub cs o n with
        | none => simp [hn, hs] at hp
        | some l =>
          simp only [hn, hs, Option.some.injEq] at hp
          subst hp
          obtain ⟨h1, h2⟩ := sub_spec hs
          have hl : n = (V.dens ρ l).length := by rw [dens_length, h1]; simp only [List.length_take, List.length_drop]; omega
          have := run_loadCells_list (P := P) w ⟨g, o, none⟩ (V.dens ρ l) (fun j v hv => by
            rw [Addr.add_none, cell_at hb]
            rw [h1, dens_map, List.map_take, List.map_drop, List.getElem?_take] at hv
            split at hv
            · rename_i hj
              rw [List.getElem?_drop] at hv
              rw [List.getElem?_append_left (by rw [dens_length]; omega), dens_map]; exact hv
            · cases hv)
          rw [← hl] at this
          simp [loadVar, run_isAgg hu, hd, run_sizeT hn, this, V.den]

theorem partV_ok {ρ : Env} {t : TypeId} {o : Nat} {cs : List V} {v : V} (hp : partV P t cs o = some v) (h : V.oks ρ cs) : v.ok ρ := by
  unfold partV at hp
  cases hu : P.underlying t with
  | none => simp [hu] at hp
  | some d =>
    simp only [hu] at hp
    cases hd : aggD d
    · simp only [hd, ift_false] at hp; exact oks_get h hp
    · simp only [hd, ift_true] at hp
      cases hn : sizeT P t with
      | none => simp [hn] at hp
      | some n =>
        cases hs : sub cs o n with
        | none => simp [hn, hs] at hp
        | some l =>
          simp only [hn, hs, Option.some.injEq] at hp
          subst hp
          simp only [V.ok]; exact oks_sub h hs

theorem run_part {ρ : Env} {t : TypeId} {o : Nat} {cs : List V} {v : V} (hp : partV P t cs o = some v) :
    (part t (V.dens ρ cs).toArray o).run P w = .ok (v.den ρ) w := by
  unfold partV at hp
  cases hu : P.underlying t with
  | none => simp [hu] at hp
  | some d =>
    simp only [hu] at hp
    cases hd : aggD d
    · simp only [hd, ift_false] at hp
      have : (V.dens ρ cs)[o]? = some (v.den ρ) := by rw [dens_map, List.getElem?_map, hp]; rfl
      simp [part, run_isAgg hu, hd, this]
    · simp only [hd, ift_true] at hp
      cases hn : sizeT P t with
      | none => simp [hn] at hp
      | some n =>
        cases hs : sub cs o n with
        | none => simp [hn, hs] at hp
        | some l =>
          simp only [hn, hs, Option.some.injEq] at hp
          subst hp
          obtain ⟨h1, h2⟩ := sub_spec hs
          simp only [part, Sem.run_bind, run_isAgg hu, hd, Result.andThen_ok, if_true, run_sizeT hn, Sem.run_pure, V.den]
          congr 2
          rw [h1]
          simp only [dens_map, List.map_take, List.map_drop, List.extract_toArray, List.extract_eq_drop_take']
          congr 1
          simp [List.take_drop]

/-! ## stores -/
theorem run_storeCells_at (g : Nat) (t : TypeId) : ∀ (vs : List Value) (o i : Nat) (cur : List Value) (w : World), w.heap[g]? = some (.cells cur.toArray t (0, 0)) → o + i + vs.length ≤ cur.length →
    (∀ v ∈ vs, v.oneCell' = true) →
    (storeCells ⟨g, o, none⟩ vs i).run P w = .ok () (w.setRow g (cur.take (o + i) ++ vs ++ cur.drop (o + i + vs.length)).toArray)
  | [], o, i, cur, w, hg, hl, _ => by
    have hlt : g < w.heap.size := (Array.getElem?_eq_some_iff.1 hg).1
    have hv : w.heap[g] = .cells cur.toArray t (0, 0) := (Array.getElem?_eq_some_iff.1 hg).2
    simp only [storeCells, List.append_nil, List.length_nil, Nat.add_zero, List.take_append_drop]
    show Result.ok () w = _
    congr 1
    unfold World.setRow
    cases w with
    | mk heap tape drawn os output =>
      congr 1
      apply Array.ext
      · simp
      · intro k h1 h2
        simp only [Array.getElem_modify]
        split
        · rename_i hk; subst hk; simp at hv; simp [hv]
        · rfl
  | v :: rest, o, i, cur, w, hg, hl, h1 => by
    simp only [List.length_cons] at hl
    have hi : o + i < cur.length := by omega
    have hcell : w.cell? ⟨g, o + i, none⟩ = some cur[o + i] := by rw [cell_at hg]; simp [hi]
    have hfro : w.frozen? ⟨g, o + i, none⟩ = false := by simp [World.frozen?, hg]
    have hst : (store ((⟨g, o, none⟩ : Addr).add i) v).run P w = .ok () (w.setRow g (cur.set (o + i) v).toArray) := by
      rw [Addr.add_none, run_store P w _ v _ (h1 v (by simp)), hcell]
      have := setCell_eq_setRow w g (o + i) cur.toArray t (0, 0) v hg
      simp [hfro, this]
    have ih := run_storeCells_at g t rest o (i + 1) (cur.set (o + i) v) (w.setRow g (cur.set (o + i) v).toArray) (setRow_heap w g cur.toArray _ t _ hg) (by simp; omega) (fun x hx => h1 x (by simp [hx]))
    simp only [storeCells, Sem.run_bind, hst, Result.andThen_ok, ih, setRow_setRow]
    congr 3
    have e1 : (cur.set (o + i) v).take (o + (i + 1)) = cur.take (o + i) ++ [v] := by
      rw [show o + (i + 1) = o + i + 1 by omega, List.take_succ_eq_append_getElem (by simp; omega)]
      rw [List.take_set, List.set_eq_of_length_le (by simp only [List.length_take]; omega)]
      simp
    have e2 : (cur.set (o + i) v).drop (o + (i + 1) + rest.length) = cur.drop (o + i + (rest.length + 1)) := by
      rw [List.drop_set_of_lt (by omega)]
      congr 1; omega
    rw [e1, e2]
    simp

end
end Go.Proofs.YtmacjmofhaghbaaDoor.Sy
end

/-
  A symbolic evaluator for the model's code: what one operation does is what the model does: loads, stores, addresses, slices.
-/
import Derived.Test.YtbajgalogjplfaaSyG
noncomputable section
namespace Go.Proofs.Ytbajgalogjplfaa.Sy
open Go

/-- What the run of a piece that yields a value must be. -/
def VS (ρ : Env) (st : St) (w : World) (r : Result Value) : R → Prop
  | .val v => r = .ok (v.den ρ) w ∧ v.ok ρ
  | .new v b => ∃ w', r = .ok (v.den ρ) w' ∧ v.ok ρ ∧ Rep ρ (st.alloc b) w'
  | .newD v b => ∃ w', r = .ok (v.den ρ) w' ∧ v.ok ρ ∧ Rep ρ (st.allocD b) w'
  | .upd v b x => ∃ w', r = .ok (v.den ρ) w' ∧ v.ok ρ ∧ Rep ρ (st.upd b x) w'
  | .need q => q.ok ρ
  | .call _ _ => False
  | .fail _ => True

section
variable {P : Program} {ρ : Env} {st : St} {w : World}

theorem normP_spec (hp : st.pc.holds ρ) {a : V} (ha : a.ok ρ) : (normP st.pc a).den ρ = a.den ρ ∧ (normP st.pc a).ok ρ := by
  cases a with
  | dptr b base idx stride u =>
    simp only [V.ok] at ha
    obtain ⟨h1, h2⟩ := PC.re_spec hp ha.1
    unfold normP
    dsimp only
    cases hr : st.pc.re idx with
    | lit n =>
      rw [hr] at h1
      simp only [V.den, V.ok, and_true, ← h1, E.den]
    | _ => exact ⟨rfl, by simpa only [V.ok] using ha⟩
  | _ => exact ⟨rfl, ha⟩

theorem strided_get {cs : List V} {stride : Nat} : ∀ {n base k : Nat}, (strided cs stride base n).length = n → k < n → (strided cs stride base n)[k]? = cs[base + k * stride]?
  | 0, _, _, _, hk => by omega
  | n + 1, base, k, hl, hk => by
    unfold strided at hl ⊢
    cases hc : cs[base]? with
    | none => simp [hc] at hl
    | some c =>
      simp only [hc, List.length_cons] at hl ⊢
      cases k with
      | zero => simp [hc]
      | succ k =>
        simp only [List.getElem?_cons_succ]
        rw [strided_get (by omega) (by omega), Nat.succ_mul]
        congr 1; omega

theorem strided_len {cs : List V} {stride : Nat} : ∀ {n base : Nat}, (strided cs stride base n).length ≤ n
  | 0, _ => by simp [strided]
  | n + 1, base => by
    unfold strided
    split
    · simp only [List.length_cons]; have := strided_len (cs := cs) (stride := stride) (n := n) (base := base + stride); omega
    · simp

theorem intsOf_spec {k : IntKind} : ∀ {l : List V} {es : List E}, intsOf k l = some es → l = es.map (V.int k)
  | [], es, h => by simp [intsOf] at h; subst h; rfl
  | v :: l, es, h => by
    cases v with
    | int k' e =>
      unfold intsOf at h
      cases hk : keq k k' <;> simp only [hk, ift_false, ift_true] at h
      · cases h
      · cases hm : intsOf k l with
        | none => simp [hm] at h
        | some m =>
          simp only [hm, Option.some.injEq] at h
          subst h
          rw [intsOf_spec hm, (keq_iff _ _).1 hk]; rfl
    | _ => simp [intsOf] at h
theorem boolsOf_spec : ∀ {l : List V} {es : List E}, boolsOf l = some es → l = es.map V.bool
  | [], es, h => by simp [boolsOf] at h; subst h; rfl
  | v :: l, es, h => by
    cases v with
    | bool e =>
      unfold boolsOf at h
      cases hm : boolsOf l with
      | none => simp [hm] at h
      | some m =>
        simp only [hm, Option.some.injEq] at h
        subst h
        rw [boolsOf_spec hm]; rfl
    | _ => simp [boolsOf] at h

theorem pickE_spec {pc : PC} (hp : pc.holds ρ) {idx : E} (hi : idx.ok ρ) : ∀ {es : List E} {j : Nat}, (∀ e ∈ es, e.ok ρ) → (j : Int) ≤ idx.den ρ → idx.den ρ < j + es.length →
    ∃ e, es[(idx.den ρ).toNat - j]? = some e ∧ (pickE pc idx j es).den ρ = e.den ρ ∧ (pickE pc idx j es).ok ρ
  | [], j, _, h1, h2 => by simp at h2; omega
  | [e], j, ho, h1, h2 => by
    simp only [List.length_cons, List.length_nil] at h2
    have : (idx.den ρ).toNat - j = 0 := by omega
    exact ⟨e, by rw [this]; rfl, rfl, ho e (by simp)⟩
  | e :: e' :: l, j, ho, h1, h2 => by
    have hu0 : pickE pc idx j (e :: e' :: l) = (ift (noRest pc idx j l) (e) <| mkIte (pc.test (.eq idx (.lit j))) e (pickE pc idx (j + 1) (e' :: l))) := rfl
    cases hnr : noRest pc idx j l
    case true =>
      have : l = [] ∧ idx.den ρ ≠ (j + 1 : Nat) := by
        unfold noRest at hnr
        cases l with
        | nil =>
          refine ⟨rfl, ?_⟩
          replace hnr : (match pc.tell (.eq idx (.lit (j + 1 : Nat))) with | some false => true | _ => false) = true := hnr
          split at hnr
          · rename_i ht
            have := PC.tell_spec hp (e := .eq idx (.lit (j + 1 : Nat))) ⟨hi, trivial⟩ ht
            intro he
            simp [E.den, he] at this
          · cases hnr
        | cons x l => simp at hnr
      obtain ⟨rfl, hne⟩ := this
      simp only [List.length_cons, List.length_nil] at h2
      have : (idx.den ρ).toNat - j = 0 := by omega
      rw [hu0, hnr]
      exact ⟨e, by rw [this]; rfl, rfl, ho e (by simp)⟩
    have hu : pickE pc idx j (e :: e' :: l) = mkIte (pc.test (.eq idx (.lit j))) e (pickE pc idx (j + 1) (e' :: l)) := by rw [hu0, hnr]; rfl
    have hte := PC.test_spec hp (e := .eq idx (.lit j)) ⟨hi, trivial⟩
    rw [hu]
    by_cases hj : idx.den ρ = j
    · have hok : (pickE pc idx (j + 1) (e' :: l)).ok ρ := by
        clear h2 h1 hj hte hu
        have : ∀ (m : List E) (j : Nat), (∀ e ∈ m, e.ok ρ) → (pickE pc idx j m).ok ρ := by
          intro m
          induction m with
          | nil => intros; trivial
          | cons a m ih =>
            intro j ho
            cases m with
            | nil => exact ho a (by simp)
            | cons b m =>
              show (ift (noRest pc idx j m) (a) <| mkIte (pc.test (.eq idx (.lit j))) a (pickE pc idx (j + 1) (b :: m))).ok ρ
              cases noRest pc idx j m
              · exact (mkIte_spec (PC.test_spec hp (e := .eq idx (.lit j)) ⟨hi, trivial⟩).2 (fun _ => ho a (by simp)) (fun _ => ih (j + 1) (fun e he => ho e (List.mem_cons_of_mem _ he)))).2
              · exact ho a (by simp)
        exact this _ _ fun x hx => ho x (List.mem_cons_of_mem _ hx)
      obtain ⟨m1, m2⟩ := mkIte_spec hte.2 (fun _ => ho e (by simp)) (fun _ => hok)
      refine ⟨e, by rw [hj]; simp, ?_, m2⟩
      rw [m1, if_neg]
      rw [← ne_eq, hte.1]
      simp [E.den, hj]
    · obtain ⟨x, hx1, hx2, hx3⟩ := pickE_spec hp hi (es := e' :: l) (j := j + 1) (fun x hx => ho x (List.mem_cons_of_mem _ hx)) (by omega) (by simp only [List.length_cons] at h2 ⊢; omega)
      obtain ⟨m1, m2⟩ := mkIte_spec hte.2 (fun _ => ho e (by simp)) (fun _ => hx3)
      refine ⟨x, ?_, ?_, m2⟩
      · have : (idx.den ρ).toNat - j = ((idx.den ρ).toNat - (j + 1)) + 1 := by omega
        rw [this, List.getElem?_cons_succ]; exact hx1
      · rw [m1, if_pos, hx2]
        rw [← Decidable.not_not (p := (pc.test (.eq idx (.lit j))).den ρ = 0), ← ne_eq, hte.1]
        simp [E.den, hj]

theorem loadR_sound (hr : Rep ρ st w) (hp : st.pc.holds ρ) (t : TypeId) {a : V} (ha : a.ok ρ) :
    VS ρ st w ((Instr.loadAt t (a.den ρ)).run P w) (loadR P st t a) := by
  obtain ⟨hn, ho⟩ := normP_spec hp ha
  unfold loadR
  rw [← hn]
  cases hv : normP st.pc a with
  | ptr b o =>
    dsimp only
    have hb := hr.blk b
    cases hc : st.blk b with
    | cells cs e tot =>
      dsimp only
      rw [hc] at hb
      obtain ⟨rest, h1, h2, _⟩ := hb
      cases hpv : partV P t cs o with
      | none => trivial
      | some v =>
        dsimp only
        refine ⟨?_, partV_ok hpv h2⟩
        simp [Instr.loadAt, Instr.sureAddr, V.den, run_loadVar h1 hpv]
    | none => trivial
    | map es clock => trivial
  | dptr b base idx stride u =>
    dsimp only
    rw [hv] at ho
    simp only [V.ok] at ho
    obtain ⟨e1, e2⟩ := PC.re_spec hp ho.1
    have need : ∀ n, (E.eq idx (.lit n)).ok ρ := fun n => ⟨ho.1, trivial⟩
    have hrg := E.rng e2
    rw [e1] at hrg
    generalize hi : st.pc.re idx = i at *
    have main : VS ρ st w (Sem.run P (Instr.loadAt t ((V.dptr b base idx stride u).den ρ)) w) (match st.blk b, P.underlying t with
      | .cells cs _ _, some d =>
        ift (aggD d) (.need (.eq idx (.lit i.lo))
       ) <| ift (!ile 0 i.lo) (.fail 9) <|
        let lo := i.lo.toNat
        let n := (i.hi - i.lo + 1).toNat
        let l := strided cs stride (base + lo * stride + u) n
        ift (!Nat.beq l.length n) (.fail 6) <|
        match l with
        | .int k _ :: _ => match intsOf k l with | some es => .val (.int k (pickE st.pc idx lo es)) | none => .need (.eq idx (.lit i.lo))
        | .bool _ :: _ => match boolsOf l with | some es => .val (.bool (pickE st.pc idx lo es)) | none => .need (.eq idx (.lit i.lo))
        | _ => .need (.eq idx (.lit i.lo))
      | _, _ => .fail 7) := by
      have hb := hr.blk b
      cases hc : st.blk b with
      | cells cs e tot =>
        cases hu : P.underlying t with
        | none => trivial
        | some d =>
          dsimp only
          cases hd : aggD d
          · simp only [ift_false]
            cases h0 : ile 0 i.lo
            · trivial
            · rw [ile_iff] at h0
              simp only [Bool.not_true, ift_false]
              cases hl : Nat.beq (strided cs stride (base + i.lo.toNat * stride + u) (i.hi - i.lo + 1).toNat).length (i.hi - i.lo + 1).toNat
              · trivial
              · have hl' := Nat.eq_of_beq_eq_true hl
                simp only [Bool.not_true, ift_false]
                rw [hc] at hb
                obtain ⟨rest, h1, h2, _⟩ := hb
                -- the cell that is meant
                have hcell : ∀ v, (strided cs stride (base + i.lo.toNat * stride + u) (i.hi - i.lo + 1).toNat)[(idx.den ρ).toNat - i.lo.toNat]? = some v →
                    (Instr.loadAt t ((V.dptr b base idx stride u).den ρ)).run P w = .ok (v.den ρ) w ∧ v.ok ρ := by
                  intro v hv
                  rw [strided_get hl' (by omega)] at hv
                  have hpv : partV P t cs (base + (idx.den ρ).toNat * stride + u) = some v := by
                    unfold partV
                    simp only [hu, hd, ift_false]
                    rw [← hv]
                    congr 1
                    have : (idx.den ρ).toNat * stride = i.lo.toNat * stride + ((idx.den ρ).toNat - i.lo.toNat) * stride := by
                      rw [← Nat.add_mul]; congr 1; omega
                    omega
                  refine ⟨?_, partV_ok hpv h2⟩
                  simp [Instr.loadAt, Instr.sureAddr, V.den, run_loadVar h1 hpv]
                have hoks : V.oks ρ (strided cs stride (base + i.lo.toNat * stride + u) (i.hi - i.lo + 1).toNat) := by
                  rw [oks_iff] at h2 ⊢
                  intro v hv
                  obtain ⟨k, hk, hk2⟩ := List.getElem_of_mem hv
                  have := strided_get hl' (k := k) (by omega)
                  rw [List.getElem?_eq_getElem hk, hk2] at this
                  exact h2 v (List.mem_of_getElem? this.symm)
                generalize hL : strided cs stride (base + i.lo.toNat * stride + u) (i.hi - i.lo + 1).toNat = L at *
                cases L with
                | nil => exact need _
                | cons v L =>
                  cases v with
                  | int k e =>
                    dsimp only
                    cases hes : intsOf k (V.int k e :: L) with
                    | none => exact need _
                    | some es =>
                      dsimp only
                      have hL2 := intsOf_spec hes
                      have hok : ∀ x ∈ es, x.ok ρ := by
                        intro x hx
                        rw [hL2, oks_iff] at hoks
                        have := hoks (.int k x) (List.mem_map_of_mem hx)
                        simpa only [V.ok] using this
                      have hlen : es.length = (i.hi - i.lo + 1).toNat := by
                        have := congrArg List.length hL2
                        rw [List.length_map] at this; omega
                      obtain ⟨x, hx1, hx2, hx3⟩ := pickE_spec hp ho.1 hok (j := i.lo.toNat) (by omega) (by omega)
                      have := hcell (.int k x) (by rw [hL2, List.getElem?_map, hx1]; rfl)
                      refine ⟨?_, by simpa only [V.ok] using hx3⟩
                      rw [this.1]
                      simp only [V.den, hx2]
                  | bool e =>
                    dsimp only
                    cases hes : boolsOf (V.bool e :: L) with
                    | none => exact need _
                    | some es =>
                      dsimp only
                      have hL2 := boolsOf_spec hes
                      have hok : ∀ x ∈ es, x.ok ρ := by
                        intro x hx
                        rw [hL2, oks_iff] at hoks
                        have := hoks (.bool x) (List.mem_map_of_mem hx)
                        simpa only [V.ok] using this
                      have hlen : es.length = (i.hi - i.lo + 1).toNat := by
                        have := congrArg List.length hL2
                        rw [List.length_map] at this; omega
                      obtain ⟨x, hx1, hx2, hx3⟩ := pickE_spec hp ho.1 hok (j := i.lo.toNat) (by omega) (by omega)
                      have := hcell (.bool x) (by rw [hL2, List.getElem?_map, hx1]; rfl)
                      refine ⟨?_, by simpa only [V.ok] using hx3⟩
                      rw [this.1]
                      simp only [V.den, hx2]
                  | _ => exact need _
          · exact need _
      | none => trivial
      | map es clock => trivial
    cases i with
    | lit n => trivial
    | _ => exact main
  | _ => trivial

/-- A row of cells that the state knows is written. -/
theorem Rep.cells (hr : Rep ρ st w) {b : B} {cs l : List V} {e : TypeId} {tot : Option (E × Nat)} {rest : List Value} (hb : st.blk b = .cells cs e tot)
    (h1 : w.heap[b.no ρ]? = some (.cells (V.dens ρ cs ++ rest).toArray e (0, 0))) {tot' : Option (E × Nat)} (hl : V.oks ρ l) {rest' : List Value}
    (ht : match tot' with | none => rest' = [] | some c => c.1.ok ρ ∧ (l.length + rest'.length : Nat) = (c.1.den ρ).toNat * c.2) :
    Rep ρ (st.upd b (.cells l e tot')) (w.setRow (b.no ρ) (V.dens ρ l ++ rest').toArray) :=
  hr.upd (by rw [hb]; simp) (by simp) (by simp) (fun k hk => setRow_other w _ k _ hk) ⟨rest', setRow_heap w _ _ _ _ _ h1, hl, ht⟩ rfl rfl rfl rfl

theorem storeR_sound (hr : Rep ρ st w) (hp : st.pc.holds ρ) (t : TypeId) {a v : V} (ha : a.ok ρ) (hv : v.ok ρ) :
    VS ρ st w (((Instr.storeAt t (a.den ρ) (v.den ρ)).run P w).andThen fun _ w' => .ok undef w') (storeR P st t a v) := by
  obtain ⟨hn, ho⟩ := normP_spec hp ha
  unfold storeR
  rw [← hn]
  cases hva : normP st.pc a with
  | ptr b o =>
    dsimp only
    have hb := hr.blk b
    cases hc : st.blk b with
    | cells cs e tot =>
      cases hs : sizeT P t with
      | none => trivial
      | some n =>
        dsimp only
        cases h0 : Nat.beq v.cells.length n && v.cells.all V.one
        · trivial
        · rw [Bool.and_eq_true] at h0
          simp only [ift_true]
          cases hsp : splice cs o v.cells with
          | none => trivial
          | some l =>
            dsimp only
            rw [hc] at hb
            obtain ⟨rest, h1, h2, h3⟩ := hb
            have hlen := Nat.eq_of_beq_eq_true h0.1
            have hcel := cells_of_ones (ρ := ρ) h0.2
            have hvok : V.oks ρ v.cells := by
              cases v with
              | agg l => simpa only [V.cells, V.ok] using hv
              | _ => simp only [V.cells, V.oks, and_true]; exact hv
            obtain ⟨q1, q2⟩ := splice_spec hsp
            have hd := dens_splice (ρ := ρ) hsp
            have hst := run_storeCells_at (P := P) (b.no ρ) e (V.dens ρ v.cells) o 0 (V.dens ρ cs ++ rest) w h1 (by rw [List.length_append, dens_length, dens_length]; omega)
              (fun x hx => by
                rw [dens_map] at hx
                obtain ⟨y, hy, rfl⟩ := List.mem_map.1 hx
                exact one_cell (List.all_eq_true.1 h0.2 y hy))
            have hrow : (V.dens ρ cs ++ rest).take (o + 0) ++ V.dens ρ v.cells ++ (V.dens ρ cs ++ rest).drop (o + 0 + (V.dens ρ v.cells).length) = V.dens ρ l ++ rest := by
              rw [hd, Nat.add_zero, List.take_append_of_le_length (by rw [dens_length]; omega), List.drop_append_of_le_length (by rw [dens_length, dens_length]; omega)]
              simp only [List.append_assoc]
            rw [hrow] at hst
            refine ⟨w.setRow (b.no ρ) (V.dens ρ l ++ rest).toArray, ?_, by simp only [V.un, V.ok], hr.cells hc h1 (oks_splice h2 hvok hsp) ?_⟩
            · have hsz : (V.dens ρ v.cells).toArray.size = n := by simp [dens_length, hlen]
              simp only [Instr.storeAt, Instr.sureAddr, V.den, Sem.run_bind, Sem.run_pure, Result.andThen_ok, storeVar, run_sizeT hs, hcel, ne_eq, hsz, not_true_eq_false, if_false, List.toList_toArray, hst, V.un]
            · cases tot with
              | none => exact h3
              | some c => exact ⟨h3.1, by rw [splice_len hsp]; exact h3.2⟩
    | none => cases sizeT P t <;> trivial
    | map es clock => cases sizeT P t <;> trivial
  | dptr b base idx stride u =>
    rw [hva] at ho
    simp only [V.ok] at ho
    exact ⟨ho.1, trivial⟩
  | _ => trivial

end
end Go.Proofs.Ytbajgalogjplfaa.Sy
end

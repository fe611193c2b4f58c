/-
  A symbolic evaluator for the model's code: what one operation does is what the model does: loads, stores, addresses, slices.
-/
import Derived.Test.YtmacjmofhaghbaaDoorSyG
noncomputable section
namespace Go.Proofs.YtmacjmofhaghbaaDoor.Sy
open Go

/-- What the run of a piece that yields a value must be. -/
def VS (ρ : Env) (st : St) (w : World) (r : Result Value) : R → Prop
  | .val v => r = .ok (v.den ρ) w ∧ v.ok ρ
  | .new v b => ∃ w', r = .ok (v.den ρ) w' ∧ v.ok ρ ∧ Rep ρ (st.alloc b) w'
  | .newD v b => ∃ w', r = .ok (v.den ρ) w' ∧ v.ok ρ ∧ Rep ρ (st.allocD b) w'
  | .upd v b x => ∃ w', r = .ok (v.den ρ) w' ∧ v.ok ρ ∧ Rep ρ (st.upd b x) w'
  | .need q => q.ok ρ
  | .call _ _ => False
  | .fail _ => True

section
variable {P : Program} {ρ : Env} {st : St} {w : World}

theorem idxAsk_ok {pc : PC} {idx : E} (h : idx.ok ρ) : ∀ (k : Nat) (v : Int), (idxAsk pc idx k v).ok ρ
  | 0, v => ⟨h, trivial⟩
  | k + 1, v => by
    unfold idxAsk
    split
    · exact idxAsk_ok h k (v + 1)
    · exact ⟨h, trivial⟩

theorem normP_spec (hp : st.pc.holds ρ) {a : V} (ha : a.ok ρ) : (normP st.pc a).den ρ = a.den ρ ∧ (normP st.pc a).ok ρ := by
  cases a with
  | dptr b base idx stride u =>
    simp only [V.ok] at ha
    obtain ⟨h1, h2⟩ := PC.re_spec hp ha.1
    unfold normP
    dsimp only
    cases hr : st.pc.re idx with
    | lit n =>
      rw [hr] at h1
      simp only [V.den, V.ok, and_true, ← h1, E.den]
    | _ => exact ⟨rfl, by simpa only [V.ok] using ha⟩
  | _ => exact ⟨rfl, ha⟩

theorem strided_get {cs : List V} {stride : Nat} : ∀ {n base k : Nat}, (strided cs stride base n).length = n → k < n → (strided cs stride base n)[k]? = cs[base + k * stride]?
  | 0, _, _, _, hk => by omega
  | n + 1, base, k, hl, hk => by
    unfold strided at hl ⊢
    cases hc : cs[base]? with
    | none => simp [hc] at hl
    | some c =>
      simp only [hc, List.length_cons] at hl ⊢
      cases k with
      | zero => simp [hc]
      | succ k =>
        simp only [List.getElem?_cons_succ]
        rw [strided_get (by omega) (by omega), Nat.succ_mul]
        congr 1; omega

theorem strided_len {cs : List V} {stride : Nat} : ∀ {n base : Nat}, (strided cs stride base n).length ≤ n
  | 0, _ => by simp [strided]
  | n + 1, base => by
    unfold strided
    split
    · simp only [List.length_cons]; have := strided_len (cs := cs) (stride := stride) (n := n) (base := base + stride); omega
    · simp

theorem intsOf_spec {k : IntKind} : ∀ {l : List V} {es : List E}, intsOf k l = some es → l = es.map (V.int k)
  | [], es, h => by simp [intsOf] at h; subst h; rfl
  | v :: l, es, h => by
    cases v with
    | int k' e =>
      unfold intsOf at h
      cases hk : keq k k' <;> simp only [hk, ift_false, ift_true] at h
      · cases h
      · cases hm : intsOf k l with
        | none => simp [hm] at h
        | some m =>
          simp only [hm, Option.some.injEq] at h
          subst h
          rw [intsOf_spec hm, (keq_iff _ _).1 hk]; rfl
    | _ => simp [intsOf] at h
theorem boolsOf_spec : ∀ {l : List V} {es : List E}, boolsOf l = some es → l = es.map V.bool
  | [], es, h => by simp [boolsOf] at h; subst h; rfl
  | v :: l, es, h => by
    cases v with
    | bool e =>
      unfold boolsOf at h
      cases hm : boolsOf l with
      | none => simp [hm] at h
      | some m =>
        simp only [hm, Option.some.injEq] at h
        subst h
        rw [boolsOf_spec hm]; rfl
    | _ => simp [boolsOf] at h

theorem atE_spec {pc : PC} (hp : pc.holds ρ) {idx : E} (hi : idx.ok ρ) {j : Nat} (hj : idx.den ρ = j) {e : E} (he : e.ok ρ) : (atE pc idx j e).den ρ = e.den ρ ∧ (atE pc idx j e).ok ρ := by
  cases e with
  | ite c a b l h =>
    unfold atE
    dsimp only
    obtain ⟨p, h1, h2⟩ := PC.put_true hp (q := .eq idx (.lit j)) ⟨hi, trivial⟩ (by rw [den_eq, den_lit]; simp [hj])
    rw [h1]
    exact norm_spec h2 he
  | _ => exact ⟨rfl, he⟩

theorem pickE_spec {pc : PC} (hp : pc.holds ρ) {idx : E} (hi : idx.ok ρ) : ∀ {es : List E} {j : Nat}, (∀ e ∈ es, e.ok ρ) → (j : Int) ≤ idx.den ρ → idx.den ρ < j + es.length →
    ∃ e, es[(idx.den ρ).toNat - j]? = some e ∧ (pickE pc idx j es).den ρ = e.den ρ ∧ (pickE pc idx j es).ok ρ
  | [], j, _, h1, h2 => by simp at h2; omega
  | [e], j, ho, h1, h2 => by
    simp only [List.length_cons, List.length_nil] at h2
    have : (idx.den ρ).toNat - j = 0 := by omega
    obtain ⟨a1, a2⟩ := atE_spec hp hi (j := j) (by omega) (ho e (by simp))
    exact ⟨e, by rw [this]; rfl, a1, a2⟩
  | e :: e' :: l, j, ho, h1, h2 => by
    have hu0 : pickE pc idx j (e :: e' :: l) = (ift (noRest pc idx j l) (atE pc idx j e) <| mkIte (pc.test (.eq idx (.lit j))) (atE pc idx j e) (pickE pc idx (j + 1) (e' :: l))) := rfl
    cases hnr : noRest pc idx j l
    case true =>
      have : l = [] ∧ idx.den ρ ≠ (j + 1 : Nat) := by
        unfold noRest at hnr
        cases l with
        | nil =>
          refine ⟨rfl, ?_⟩
          replace hnr : (match pc.tell (.eq idx (.lit (j + 1 : Nat))) with | some false => true | _ => false) = true := hnr
          split at hnr
          · rename_i ht
            have := PC.tell_spec hp (e := .eq idx (.lit (j + 1 : Nat))) ⟨hi, trivial⟩ ht
            intro he
            simp [E.den, he] at this
          · cases hnr
        | cons x l => simp at hnr
      obtain ⟨rfl, hne⟩ := this
      simp only [List.length_cons, List.length_nil] at h2
      have : (idx.den ρ).toNat - j = 0 := by omega
      obtain ⟨a1, a2⟩ := atE_spec hp hi (j := j) (by omega) (ho e (by simp))
      rw [hu0, hnr]
      exact ⟨e, by rw [this]; rfl, a1, a2⟩
    have hu : pickE pc idx j (e :: e' :: l) = mkIte (pc.test (.eq idx (.lit j))) (atE pc idx j e) (pickE pc idx (j + 1) (e' :: l)) := by rw [hu0, hnr]; rfl
    have hte := PC.test_spec hp (e := .eq idx (.lit j)) ⟨hi, trivial⟩
    have hiff : ((pc.test (.eq idx (.lit j))).den ρ ≠ 0) = (idx.den ρ = j) := by
      rw [hte.1, den_eq, den_lit]
      by_cases h : idx.den ρ = j <;> simp [h]
    rw [hu]
    have at_ : (pc.test (.eq idx (.lit j))).den ρ ≠ 0 → (atE pc idx j e).den ρ = e.den ρ ∧ (atE pc idx j e).ok ρ := fun h => atE_spec hp hi (by rw [hiff] at h; exact h) (ho e (by simp))
    have re : (pc.test (.eq idx (.lit j))).den ρ = 0 → ∃ x, (e' :: l)[(idx.den ρ).toNat - (j + 1)]? = some x ∧ (pickE pc idx (j + 1) (e' :: l)).den ρ = x.den ρ ∧ (pickE pc idx (j + 1) (e' :: l)).ok ρ := fun h => by
      have hne : ¬ idx.den ρ = j := by rw [← hiff]; simp [h]
      exact pickE_spec hp hi (es := e' :: l) (j := j + 1) (fun x hx => ho x (List.mem_cons_of_mem _ hx)) (by omega) (by simp only [List.length_cons] at h2 ⊢; omega)
    obtain ⟨m1, m2⟩ := mkIte_spec (ρ := ρ) (c := pc.test (.eq idx (.lit j))) (a := atE pc idx j e) (b := pickE pc idx (j + 1) (e' :: l)) hte.2 (fun h => (at_ h).2) (fun h => by obtain ⟨_, _, _, h⟩ := re h; exact h)
    by_cases h0 : (pc.test (.eq idx (.lit j))).den ρ = 0
    · obtain ⟨x, hx1, hx2, hx3⟩ := re h0
      have hne : ¬ idx.den ρ = j := by rw [← hiff]; simp [h0]
      refine ⟨x, ?_, by rw [m1, if_pos h0, hx2], m2⟩
      have : (idx.den ρ).toNat - j = ((idx.den ρ).toNat - (j + 1)) + 1 := by omega
      rw [this, List.getElem?_cons_succ]; exact hx1
    · have hj : idx.den ρ = j := by have h0' : (pc.test (.eq idx (.lit j))).den ρ ≠ 0 := h0; rw [hiff] at h0'; exact h0'
      refine ⟨e, by rw [hj]; simp, by rw [m1, if_neg h0]; exact (at_ h0).1, m2⟩

theorem loadR_sound (hr : Rep ρ st w) (hp : st.pc.holds ρ) (t : TypeId) {a : V} (ha : a.ok ρ) :
    VS ρ st w ((Instr.loadAt t (a.den ρ)).run P w) (loadR P st t a) := by
  obtain ⟨hn, ho⟩ := normP_spec hp ha
  unfold loadR
  rw [← hn]
  cases hv : normP st.pc a with
  | ptr b o =>
    dsimp only
    cases hc : st.look b with
    | cells cs e tot =>
      dsimp only
      obtain ⟨rest, _, _, h1, h2⟩ := hr.look b hc
      cases hpv : partV P t cs o with
      | none => trivial
      | some v =>
        dsimp only
        refine ⟨?_, partV_ok hpv h2⟩
        simp [Instr.loadAt, Instr.sureAddr, V.den, run_loadVar h1 hpv]
    | none => trivial
    | map es clock => trivial
  | dptr b base idx stride u =>
    dsimp only
    rw [hv] at ho
    simp only [V.ok] at ho
    obtain ⟨e1, e2⟩ := PC.re_spec hp ho.1
    have need : ∀ n, (idxAsk st.pc idx 80 n).ok ρ := fun n => idxAsk_ok ho.1 80 n
    have hrg := E.rng e2
    rw [e1] at hrg
    generalize hi : st.pc.re idx = i at *
    have main : VS ρ st w (Sem.run P (Instr.loadAt t ((V.dptr b base idx stride u).den ρ)) w) (match st.look b, P.underlying t with
      | .cells cs _ _, some d =>
        ift (aggD d) (.need (idxAsk st.pc idx 80 i.lo)
       ) <| ift (!ile 0 i.lo) (.fail 9) <|
        let lo := i.lo.toNat
        let n := (i.hi - i.lo + 1).toNat
        let l := strided cs stride (base + lo * stride + u) n
        ift (!Nat.beq l.length n) (.fail 6) <|
        match l with
        | .int k _ :: _ => match intsOf k l with | some es => .val (.int k (pickE st.pc idx lo es)) | none => .need (idxAsk st.pc idx 80 i.lo)
        | .bool _ :: _ => match boolsOf l with | some es => .val (.bool (pickE st.pc idx lo es)) | none => .need (idxAsk st.pc idx 80 i.lo)
        | _ => .need (idxAsk st.pc idx 80 i.lo)
      | _, _ => .fail 7) := by
      cases hc : st.look b with
      | cells cs e tot =>
        cases hu : P.underlying t with
        | none => trivial
        | some d =>
          dsimp only
          cases hd : aggD d
          · simp only [ift_false]
            cases h0 : ile 0 i.lo
            · trivial
            · rw [ile_iff] at h0
              simp only [Bool.not_true, ift_false]
              cases hl : Nat.beq (strided cs stride (base + i.lo.toNat * stride + u) (i.hi - i.lo + 1).toNat).length (i.hi - i.lo + 1).toNat
              · trivial
              · have hl' := Nat.eq_of_beq_eq_true hl
                simp only [Bool.not_true, ift_false]
                obtain ⟨rest, _, _, h1, h2⟩ := hr.look b hc
                -- the cell that is meant
                have hcell : ∀ v, (strided cs stride (base + i.lo.toNat * stride + u) (i.hi - i.lo + 1).toNat)[(idx.den ρ).toNat - i.lo.toNat]? = some v →
                    (Instr.loadAt t ((V.dptr b base idx stride u).den ρ)).run P w = .ok (v.den ρ) w ∧ v.ok ρ := by
                  intro v hv
                  rw [strided_get hl' (by omega)] at hv
                  have hpv : partV P t cs (base + (idx.den ρ).toNat * stride + u) = some v := by
                    unfold partV
                    simp only [hu, hd, ift_false]
                    rw [← hv]
                    congr 1
                    have : (idx.den ρ).toNat * stride = i.lo.toNat * stride + ((idx.den ρ).toNat - i.lo.toNat) * stride := by
                      rw [← Nat.add_mul]; congr 1; omega
                    omega
                  refine ⟨?_, partV_ok hpv h2⟩
                  simp [Instr.loadAt, Instr.sureAddr, V.den, run_loadVar h1 hpv]
                have hoks : V.oks ρ (strided cs stride (base + i.lo.toNat * stride + u) (i.hi - i.lo + 1).toNat) := by
                  rw [oks_iff] at h2 ⊢
                  intro v hv
                  obtain ⟨k, hk, hk2⟩ := List.getElem_of_mem hv
                  have := strided_get hl' (k := k) (by omega)
                  rw [List.getElem?_eq_getElem hk, hk2] at this
                  exact h2 v (List.mem_of_getElem? this.symm)
                generalize hL : strided cs stride (base + i.lo.toNat * stride + u) (i.hi - i.lo + 1).toNat = L at *
                cases L with
                | nil => exact need _
                | cons v L =>
                  cases v with
                  | int k e =>
                    dsimp only
                    cases hes : intsOf k (V.int k e :: L) with
                    | none => exact need _
                    | some es =>
                      dsimp only
                      have hL2 := intsOf_spec hes
                      have hok : ∀ x ∈ es, x.ok ρ := by
                        intro x hx
                        rw [hL2, oks_iff] at hoks
                        have := hoks (.int k x) (List.mem_map_of_mem hx)
                        simpa only [V.ok] using this
                      have hlen : es.length = (i.hi - i.lo + 1).toNat := by
                        have := congrArg List.length hL2
                        rw [List.length_map] at this; omega
                      obtain ⟨x, hx1, hx2, hx3⟩ := pickE_spec hp ho.1 hok (j := i.lo.toNat) (by omega) (by omega)
                      have := hcell (.int k x) (by rw [hL2, List.getElem?_map, hx1]; rfl)
                      refine ⟨?_, by simpa only [V.ok] using hx3⟩
                      rw [this.1]
                      simp only [V.den, hx2]
                  | bool e =>
                    dsimp only
                    cases hes : boolsOf (V.bool e :: L) with
                    | none => exact need _
                    | some es =>
                      dsimp only
                      have hL2 := boolsOf_spec hes
                      have hok : ∀ x ∈ es, x.ok ρ := by
                        intro x hx
                        rw [hL2, oks_iff] at hoks
                        have := hoks (.bool x) (List.mem_map_of_mem hx)
                        simpa only [V.ok] using this
                      have hlen : es.length = (i.hi - i.lo + 1).toNat := by
                        have := congrArg List.length hL2
                        rw [List.length_map] at this; omega
                      obtain ⟨x, hx1, hx2, hx3⟩ := pickE_spec hp ho.1 hok (j := i.lo.toNat) (by omega) (by omega)
                      have := hcell (.bool x) (by rw [hL2, List.getElem?_map, hx1]; rfl)
                      refine ⟨?_, by simpa only [V.ok] using hx3⟩
                      rw [this.1]
                      simp only [V.den, hx2]
                  | _ => exact need _
          · exact need _
      | none => trivial
      | map es clock => trivial
    cases i with
    | lit n => trivial
    | _ => exact main
  | _ => trivial

/-- A row of cells that the state knows is written. -/
theorem Rep.cells (hr : Rep ρ st w) {b : B} {cs l : List V} {e : TypeId} {tot : Option (E × Nat)} {rest : List Value} (hb : st.blk b = .cells cs e tot)
    (h1 : w.heap[b.no ρ]? = some (.cells (V.dens ρ cs ++ rest).toArray e (0, 0))) {tot' : Option (E × Nat)} (hl : V.oks ρ l) {rest' : List Value}
    (ht : match tot' with | none => rest' = [] | some c => c.1.ok ρ ∧ (l.length + rest'.length : Nat) = (c.1.den ρ).toNat * c.2) :
    Rep ρ (st.upd b (.cells l e tot')) (w.setRow (b.no ρ) (V.dens ρ l ++ rest').toArray) :=
  hr.upd (by rw [hb]; simp) (by simp) (by simp) (fun k hk => setRow_other w _ k _ hk) ⟨rest', setRow_heap w _ _ _ _ _ h1, hl, ht⟩ rfl rfl rfl rfl

theorem dens_set (ρ : Env) : ∀ (l : List V) (p : Nat) (v : V), V.dens ρ (l.set p v) = (V.dens ρ l).set p (v.den ρ)
  | [], _, _ => by simp [V.dens]
  | a :: l, 0, v => by simp [V.dens]
  | a :: l, p + 1, v => by simp [V.dens, dens_set ρ l p v]
theorem oks_set {ρ : Env} : ∀ {l : List V} {p : Nat} {v : V}, V.oks ρ l → v.ok ρ → V.oks ρ (l.set p v)
  | [], _, _, _, _ => by simp [V.oks]
  | a :: l, 0, v, h, hv => by simp only [V.oks, List.set_cons_zero] at h ⊢; exact ⟨hv, h.2⟩
  | a :: l, p + 1, v, h, hv => by simp only [V.oks, List.set_cons_succ] at h ⊢; exact ⟨h.1, oks_set h.2 hv⟩
theorem splice_one {α : Type} : ∀ {l : List α} {p : Nat} {v : α} {m : List α}, splice l p [v] = some m → m = l.set p v
  | [], 0, v, m, h => by simp [splice, splice.go] at h
  | a :: l, 0, v, m, h => by
    simp only [splice, splice.go, Option.some.injEq] at h
    rw [← h]; rfl
  | [], p + 1, v, m, h => by simp [splice] at h
  | a :: l, p + 1, v, m, h => by
    unfold splice at h
    cases hs : splice l p [v] with
    | none => simp [hs] at h
    | some m' =>
      simp only [hs, Option.some.injEq] at h
      rw [← h, splice_one hs]; rfl

theorem putS_spec {pc : PC} (hp : pc.holds ρ) {idx x : E} (hi : idx.ok ρ) (hx : x.ok ρ) {k : IntKind} {stride : Nat} : ∀ (n : Nat) (j : Int) (p : Nat) (cs l : List V), V.oks ρ cs → putS pc idx x k stride n j p cs = some l →
    V.oks ρ l ∧ l.length = cs.length ∧ (j ≤ idx.den ρ → idx.den ρ < j + n → V.dens ρ l = (V.dens ρ cs).set (p + (idx.den ρ - j).toNat * stride) (.int k (x.den ρ)) ∧ p + (idx.den ρ - j).toNat * stride < cs.length) ∧
    (idx.den ρ < j → V.dens ρ l = V.dens ρ cs)
  | 0, j, p, cs, l, ho, h => by
    simp only [putS, Option.some.injEq] at h
    subst h
    exact ⟨ho, rfl, fun h1 h2 => by omega, fun _ => rfl⟩
  | n + 1, j, p, cs, l, ho, h => by
    unfold putS at h
    cases hc : cs[p]? with
    | none => simp [hc] at h
    | some c =>
      simp only [hc] at h
      cases c with
      | int k' e =>
        dsimp only at h
        cases hk : keq k k'
        · simp [hk] at h
        · have hkk := (keq_iff _ _).1 hk
          subst hkk
          simp only [hk, ift_true] at h
          have hlt : p < cs.length := (List.getElem?_eq_some_iff.1 hc).1
          have he : e.ok ρ := by
            have := oks_get ho hc
            simpa only [V.ok] using this
          cases hs : splice cs p [V.int k (mkIte (pc.test (.eq idx (.lit j))) x e)] with
          | none => simp [hs] at h
          | some cs1 =>
            simp only [hs] at h
            have h1 := splice_one hs
            obtain ⟨t1, t2⟩ := PC.test_spec hp (e := .eq idx (.lit j)) ⟨hi, trivial⟩
            obtain ⟨m1, m2⟩ := mkIte_spec (ρ := ρ) (c := pc.test (.eq idx (.lit j))) (a := x) (b := e) t2 (fun _ => hx) (fun _ => he)
            have t1 : ((pc.test (.eq idx (.lit j))).den ρ ≠ 0) = (idx.den ρ = j) := by
              rw [t1, den_eq, den_lit]
              by_cases h : idx.den ρ = j <;> simp [h]
            have ho1 : V.oks ρ cs1 := by rw [h1]; exact oks_set ho (by simpa only [V.ok] using m2)
            obtain ⟨r1, r2, r3, r4⟩ := putS_spec hp hi hx n (j + 1) (p + stride) cs1 l ho1 h
            have hl1 : cs1.length = cs.length := by rw [h1, List.length_set]
            have hd1 : V.dens ρ cs1 = (V.dens ρ cs).set p (.int k ((mkIte (pc.test (.eq idx (.lit j))) x e).den ρ)) := by rw [h1, dens_set]; simp only [V.den]
            have hold : idx.den ρ ≠ j → V.dens ρ cs1 = V.dens ρ cs := by
              intro hne
              have h0 : (pc.test (.eq idx (.lit j))).den ρ = 0 := by
                have := t1
                simp only [hne, eq_iff_iff, iff_false, ne_eq, Decidable.not_not] at this
                exact this
              rw [hd1, m1, if_pos h0]
              have hg : (V.dens ρ cs)[p]? = some (.int k (e.den ρ)) := by rw [dens_map, List.getElem?_map, hc]; simp only [Option.map_some, V.den]
              obtain ⟨hp1, hp2⟩ := List.getElem?_eq_some_iff.1 hg
              rw [← hp2]; exact List.set_getElem_self hp1
            refine ⟨r1, by rw [r2, hl1], fun g1 g2 => ?_, fun g => ?_⟩
            · by_cases hj : idx.den ρ = j
              · have h0 : ¬ (pc.test (.eq idx (.lit j))).den ρ = 0 := by
                  have := t1
                  simp only [hj, eq_iff_iff, iff_true] at this
                  exact this
                have e0 : (idx.den ρ - j).toNat = 0 := by omega
                rw [r4 (by omega), hd1, m1, if_neg h0, e0, Nat.zero_mul, Nat.add_zero]
                exact ⟨rfl, hlt⟩
              · obtain ⟨q1, q2⟩ := r3 (by omega) (by omega)
                have e1 : (idx.den ρ - j).toNat = (idx.den ρ - (j + 1)).toNat + 1 := by omega
                have e2 : p + (idx.den ρ - j).toNat * stride = p + stride + (idx.den ρ - (j + 1)).toNat * stride := by
                  rw [e1, Nat.succ_mul]; omega
                rw [e2]
                exact ⟨by rw [q1, hold hj], by rw [← hl1]; exact q2⟩
            · rw [r4 (by omega), hold (by omega)]
      | _ => simp at h

theorem storeR_sound (hr : Rep ρ st w) (hp : st.pc.holds ρ) (t : TypeId) {a v : V} (ha : a.ok ρ) (hv : v.ok ρ) :
    VS ρ st w (((Instr.storeAt t (a.den ρ) (v.den ρ)).run P w).andThen fun _ w' => .ok undef w') (storeR P st t a v) := by
  obtain ⟨hn, ho⟩ := normP_spec hp ha
  unfold storeR
  rw [← hn]
  cases hva : normP st.pc a with
  | ptr b o =>
    dsimp only
    have hb := hr.blk b
    cases hc : st.blk b with
    | cells cs e tot =>
      cases hs : sizeT P t with
      | none => trivial
      | some n =>
        dsimp only
        cases h0 : Nat.beq v.cells.length n && v.cells.all V.one
        · trivial
        · rw [Bool.and_eq_true] at h0
          simp only [ift_true]
          cases hsp : splice cs o v.cells with
          | none => trivial
          | some l =>
            dsimp only
            rw [hc] at hb
            obtain ⟨rest, h1, h2, h3⟩ := hb
            have hlen := Nat.eq_of_beq_eq_true h0.1
            have hcel := cells_of_ones (ρ := ρ) h0.2
            have hvok : V.oks ρ v.cells := by
              cases v with
              | agg l => simpa only [V.cells, V.ok] using hv
              | _ => simp only [V.cells, V.oks, and_true]; exact hv
            obtain ⟨q1, q2⟩ := splice_spec hsp
            have hd := dens_splice (ρ := ρ) hsp
            have hst := run_storeCells_at (P := P) (b.no ρ) e (V.dens ρ v.cells) o 0 (V.dens ρ cs ++ rest) w h1 (by rw [List.length_append, dens_length, dens_length]; omega)
              (fun x hx => by
                rw [dens_map] at hx
                obtain ⟨y, hy, rfl⟩ := List.mem_map.1 hx
                exact one_cell (List.all_eq_true.1 h0.2 y hy))
            have hrow : (V.dens ρ cs ++ rest).take (o + 0) ++ V.dens ρ v.cells ++ (V.dens ρ cs ++ rest).drop (o + 0 + (V.dens ρ v.cells).length) = V.dens ρ l ++ rest := by
              rw [hd, Nat.add_zero, List.take_append_of_le_length (by rw [dens_length]; omega), List.drop_append_of_le_length (by rw [dens_length, dens_length]; omega)]
              simp only [List.append_assoc]
            rw [hrow] at hst
            refine ⟨w.setRow (b.no ρ) (V.dens ρ l ++ rest).toArray, ?_, by simp only [V.un, V.ok], hr.cells hc h1 (oks_splice h2 hvok hsp) ?_⟩
            · have hsz : (V.dens ρ v.cells).toArray.size = n := by simp [dens_length, hlen]
              simp only [Instr.storeAt, Instr.sureAddr, V.den, Sem.run_bind, Sem.run_pure, Result.andThen_ok, storeVar, run_sizeT hs, hcel, ne_eq, hsz, not_true_eq_false, if_false, List.toList_toArray, hst, V.un]
            · cases tot with
              | none => exact h3
              | some c => exact ⟨h3.1, by rw [splice_len hsp]; exact h3.2⟩
    | none => cases sizeT P t <;> trivial
    | map es clock => cases sizeT P t <;> trivial
  | dptr b base idx stride u =>
    rw [hva] at ho
    simp only [V.ok] at ho
    have need : (idxAsk st.pc idx 80 (st.pc.re idx).lo).ok ρ := idxAsk_ok ho.1 80 _
    dsimp only
    have hb := hr.blk b
    cases hc : st.blk b with
    | cells cs e tot =>
      cases hs : sizeT P t with
      | none => exact need
      | some n =>
        dsimp only
        cases v with
        | int k x =>
          dsimp only
          cases h0 : Nat.beq n 1 && ile 0 (st.pc.re idx).lo && Nat.blt 0 stride && Nat.blt ((st.pc.re idx).hi - (st.pc.re idx).lo).toNat 16
          · exact need
          · simp only [Bool.and_eq_true, ile_iff] at h0
            obtain ⟨⟨⟨h01, h02⟩, _⟩, _⟩ := h0
            have hn1 := Nat.eq_of_beq_eq_true h01
            subst hn1
            simp only [ift_true]
            obtain ⟨i1, i2⟩ := PC.re_spec hp ho.1
            have ri := E.rng i2
            rw [i1] at ri
            simp only [V.ok] at hv
            rw [hc] at hb
            obtain ⟨rest, h1, h2, h3⟩ := hb
            cases hps : putS st.pc idx x k stride (((st.pc.re idx).hi - (st.pc.re idx).lo).toNat + 1) (st.pc.re idx).lo (base + (st.pc.re idx).lo.toNat * stride + u) cs with
            | none => exact need
            | some l =>
              dsimp only
              obtain ⟨p1, p2, p3, _⟩ := putS_spec hp ho.1 hv _ _ _ _ _ h2 hps
              obtain ⟨p4, p5⟩ := p3 (by omega) (by omega)
              have epos : base + (st.pc.re idx).lo.toNat * stride + u + (idx.den ρ - (st.pc.re idx).lo).toNat * stride = base + (idx.den ρ).toNat * stride + u := by
                have : (idx.den ρ).toNat * stride = (st.pc.re idx).lo.toNat * stride + (idx.den ρ - (st.pc.re idx).lo).toNat * stride := by
                  rw [← Nat.add_mul]; congr 1; omega
                omega
              rw [epos] at p4 p5
              have hst := run_storeCells_at (P := P) (b.no ρ) e [.int k (x.den ρ)] (base + (idx.den ρ).toNat * stride + u) 0 (V.dens ρ cs ++ rest) w h1
                (by rw [List.length_append, dens_length]; simp only [List.length_cons, List.length_nil]; omega)
                (fun y hy => by
                  simp only [List.mem_singleton] at hy
                  subst hy; rfl)
              have hrow : (V.dens ρ cs ++ rest).take (base + (idx.den ρ).toNat * stride + u + 0) ++ [.int k (x.den ρ)] ++ (V.dens ρ cs ++ rest).drop (base + (idx.den ρ).toNat * stride + u + 0 + [Value.int k (x.den ρ)].length) = V.dens ρ l ++ rest := by
                rw [p4, Nat.add_zero, List.take_append_of_le_length (by rw [dens_length]; omega), List.drop_append_of_le_length (by rw [dens_length]; simp only [List.length_cons, List.length_nil]; omega),
                  List.set_eq_take_append_cons_drop, if_pos (by rw [dens_length]; exact p5)]
                simp
              rw [hrow] at hst
              refine ⟨w.setRow (b.no ρ) (V.dens ρ l ++ rest).toArray, ?_, by simp only [V.un, V.ok], hr.cells hc h1 p1 ?_⟩
              · have hcv : (Value.int k (x.den ρ)).cells = #[.int k (x.den ρ)] := rfl
                simp only [Instr.storeAt, Instr.sureAddr, V.den, Sem.run_bind, Sem.run_pure, Result.andThen_ok, storeVar, run_sizeT hs, hcv, ne_eq, List.size_toArray, List.length_cons, List.length_nil, Nat.zero_add, not_true_eq_false, if_false, hst, V.un]
              · cases tot with
                | none => exact h3
                | some c => exact ⟨h3.1, by rw [p2]; exact h3.2⟩
        | _ => exact need
    | none => cases sizeT P t <;> exact need
    | map es clock => cases sizeT P t <;> exact need
  | _ => trivial

end
end Go.Proofs.YtmacjmofhaghbaaDoor.Sy
end

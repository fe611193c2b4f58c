/-
  A symbolic evaluator for the model's code: arguments that are plain data (numbers, truth values, structs and arrays of them); laws.
-/
import Derived.Test.YtmacjmofhaghbaaDoorSyT
import Derived.RowKit3
import Derived.OpenShut
import Derived.ProofKit
import Derived.ChangeSame
noncomputable section
namespace Go.Proofs.YtmacjmofhaghbaaDoor.Sy
open Go Go.ChangeShapes Go.WideShapes Go.RowKit

/-- The cells of a type of plain data: numbers of a kind, or truth values. -/
def kindsRep (ks : List (Option IntKind)) : Nat → List (Option IntKind)
  | 0 => []
  | n + 1 => ks ++ kindsRep ks n

def fieldsBy (kinds : TypeId → Option (List (Option IntKind))) (P : Program) : List Field → Nat → Option (List (Option IntKind))
  | [], _ => some []
  | f :: fs, off => ift (Nat.beq f.offset off) ((match kinds f.type with
    | some k => ift (Nat.beq k.length (P.cellsOf f.type)) ((match fieldsBy kinds P fs (off + k.length) with
      | some r => some (k ++ r)
      | none => none)) <| none
    | none => none)) <| none

def kinds (P : Program) : Nat → TypeId → Option (List (Option IntKind))
  | 0, _ => none
  | d + 1, t => match P.underlying t with
    | some (.int k) => some [some k]
    | some .bool => some [none]
    | some (.struct fs) => match fieldsBy (kinds P d) P fs.toList 0 with
      | some ks => ift (Nat.beq ks.length (P.cellsOf t)) (some ks) <| none
      | none => none
    | some (.array n e) => match kinds P d e with
      | some ks => ift (Nat.beq ks.length (P.cellsOf e) && Nat.beq (n * ks.length) (P.cellsOf t)) (some (kindsRep ks n)) <| none
      | none => none
    | _ => none

def Fits : Option IntKind → Value → Prop
  | some k, v => ∃ n, v = .int k n ∧ (Lit.int k n).wf = true
  | none, v => ∃ b, v = .bool b

def AllFit : List (Option IntKind) → List Value → Prop
  | [], [] => True
  | k :: ks, v :: vs => Fits k v ∧ AllFit ks vs
  | _, _ => False

theorem AllFit.append : ∀ {ks ks' : List (Option IntKind)} {vs vs' : List Value}, AllFit ks vs → AllFit ks' vs' → AllFit (ks ++ ks') (vs ++ vs')
  | [], _, [], _, _, h => h
  | _ :: _, _, _ :: _, _, ⟨h1, h2⟩, h => ⟨h1, h2.append h⟩
theorem AllFit.len : ∀ {ks : List (Option IntKind)} {vs : List Value}, AllFit ks vs → vs.length = ks.length
  | [], [], _ => rfl
  | _ :: _, _ :: _, ⟨_, h⟩ => by simp [h.len]

section
variable {H : Type} {enc : TypeId × Value → H} {P : Program} {w : World} {base : Nat} {spare : Nat → Bool} {held : Bool}

theorem kinds_spec : ∀ (d : Nat) (t : TypeId) (ks : List (Option IntKind)), kinds P d t = some ks → ∀ (fuel : Nat) (cs : List Value) (x : DataW H × List MemPlace),
    DataW.trod enc P w base spare held fuel t cs = some x → AllFit ks cs
  | 0, _, _, h => by simp [kinds] at h
  | d + 1, t, ks, h => by
    intro fuel cs x hx
    have ih := kinds_spec d
    unfold kinds at h
    cases hu : P.underlying t with
    | none => simp [hu] at h
    | some u =>
      cases u
      case int k =>
        simp only [hu, Option.some.injEq] at h
        subst h
        obtain ⟨n, h1, _, hw⟩ := DataW.trod_int hu hx
        subst h1
        exact ⟨⟨n, rfl, hw⟩, trivial⟩
      case bool =>
        simp only [hu, Option.some.injEq] at h
        subst h
        obtain ⟨b, h1, _⟩ := DataW.trod_bool hu hx
        subst h1
        exact ⟨⟨b, rfl⟩, trivial⟩
      case struct fs =>
        simp only [hu] at h
        cases hf : fieldsBy (kinds P d) P fs.toList 0 with
        | none => simp [hf] at h
        | some r =>
          simp only [hf] at h
          cases hl : Nat.beq r.length (P.cellsOf t) <;> simp only [hl, ift_false, ift_true, Option.some.injEq, reduceCtorEq] at h
          subst h
          have hl := Nat.eq_of_beq_eq_true hl
          obtain ⟨xs, n, _, _, hlen, _, hfs⟩ := DataW.trod_struct hu hx
          have main : ∀ (l : List Field) (off : Nat) (r : List (Option IntKind)), fieldsBy (kinds P d) P l off = some r →
              (∀ (j : Nat) (f : Field), l[j]? = some f → ∃ y, DataW.trod enc P w base spare held n f.type ((cs.drop f.offset).take (P.cellsOf f.type)) = some y) →
              AllFit r ((cs.drop off).take r.length) := by
            intro l
            induction l with
            | nil =>
              intro off r hr _
              simp only [fieldsBy, Option.some.injEq] at hr
              subst hr
              simp [AllFit]
            | cons f l ihl =>
              intro off r hr hj
              unfold fieldsBy at hr
              cases ho : Nat.beq f.offset off <;> simp only [ho, ift_false, ift_true, reduceCtorEq] at hr
              have ho := Nat.eq_of_beq_eq_true ho
              cases hk : kinds P d f.type with
              | none => simp [hk] at hr
              | some k =>
                simp only [hk] at hr
                cases hkl : Nat.beq k.length (P.cellsOf f.type) <;> simp only [hkl, ift_false, ift_true, reduceCtorEq] at hr
                have hkl := Nat.eq_of_beq_eq_true hkl
                cases hrest : fieldsBy (kinds P d) P l (off + k.length) with
                | none => simp [hrest] at hr
                | some r' =>
                  simp only [hrest, Option.some.injEq] at hr
                  subst hr
                  obtain ⟨y, hy⟩ := hj 0 f rfl
                  have h1 := ih f.type k hk n _ y hy
                  have h2 := ihl (off + k.length) r' hrest fun j f' hf' => hj (j + 1) f' (by simpa using hf')
                  rw [ho, ← hkl] at h1
                  have e : (cs.drop off).take (k ++ r').length = (cs.drop off).take k.length ++ (cs.drop (off + k.length)).take r'.length := by
                    rw [List.length_append, List.take_add, List.drop_drop]
                  rw [e]
                  exact h1.append h2
          have := main fs.toList 0 r hf fun j f hj => by
            have hj' : fs[j]? = some f := by simpa using hj
            have hlt := (Array.getElem?_eq_some_iff.1 hj').1
            have h3 := hfs j f hj'
            rename_i hxl
            have hxs : xs[j]? = some (xs[j]'(by rw [hxl]; exact hlt)) := List.getElem?_eq_getElem _
            exact ⟨_, by rw [h3, hxs]⟩
          rw [List.drop_zero, List.take_of_length_le (by omega)] at this
          exact this
      case array n e =>
        simp only [hu] at h
        cases hk : kinds P d e with
        | none => simp [hk] at h
        | some k =>
          simp only [hk] at h
          cases hl : Nat.beq k.length (P.cellsOf e) && Nat.beq (n * k.length) (P.cellsOf t) <;> simp only [hl, ift_false, ift_true, Option.some.injEq, reduceCtorEq] at h
          subst h
          rw [Bool.and_eq_true] at hl
          have h1 := Nat.eq_of_beq_eq_true hl.1
          have h2 := Nat.eq_of_beq_eq_true hl.2
          obtain ⟨xs, m, _, _, hlen, hxl, hxs⟩ := DataW.trod_array hu hx
          have main : ∀ (r i : Nat), i + r = n → AllFit (kindsRep k r) ((cs.drop (i * k.length)).take (r * k.length)) := by
            intro r
            induction r with
            | zero => intro i _; simp [kindsRep, AllFit]
            | succ r ihr =>
              intro i hi
              have h3 := hxs i (by omega)
              have hx' : xs[i]? = some (xs[i]'(by omega)) := List.getElem?_eq_getElem _
              rw [hx'] at h3
              have h4 := ih e k hk m _ _ h3
              rw [← h1] at h4
              have h5 := ihr (i + 1) (by omega)
              have e : (cs.drop (i * k.length)).take ((r + 1) * k.length) = (cs.drop (i * k.length)).take k.length ++ (cs.drop ((i + 1) * k.length)).take (r * k.length) := by
                rw [Nat.add_mul, Nat.one_mul, Nat.add_comm, List.take_add, List.drop_drop, Nat.add_mul, Nat.one_mul]
              rw [e]
              exact h4.append h5
          have := main n 0 (by omega)
          rw [Nat.zero_mul, List.drop_zero, List.take_of_length_le (by omega)] at this
          exact this
      all_goals (simp only [hu, reduceCtorEq] at h)

theorem mapM_same {α β : Type} {f g : α → Option β} : ∀ {l : List α} {xs : List β}, l.mapM f = some xs → (∀ a ∈ l, ∀ y, f a = some y → g a = some y) → l.mapM g = some xs
  | [], xs, h, _ => by simpa using h
  | a :: l, xs, h, hg => by
    rw [List.mapM_cons] at h ⊢
    cases ha : f a with
    | none => simp [ha] at h
    | some y =>
      cases hl : l.mapM f with
      | none => simp [ha, hl] at h
      | some ys =>
        have h1 := hg a (by simp) y ha
        have h2 := mapM_same hl fun b hb => hg b (List.mem_cons_of_mem _ hb)
        simp only [ha, hl, h1, h2] at h ⊢
        exact h

theorem mapM_all {α β : Type} {f : α → Option β} {p : β → Prop} : ∀ {l : List α} {xs : List β}, l.mapM f = some xs → (∀ a ∈ l, ∀ y, f a = some y → p y) → ∀ x ∈ xs, p x
  | [], xs, h, _, x, hx => by
    simp at h; subst h; cases hx
  | a :: l, xs, h, hg, x, hx => by
    rw [List.mapM_cons] at h
    cases ha : f a with
    | none => simp [ha] at h
    | some y =>
      cases hl : l.mapM f with
      | none => simp [ha, hl] at h
      | some ys =>
        simp [ha, hl] at h
        subst h
        rcases List.mem_cons.1 hx with rfl | hx
        · exact hg a (by simp) _ ha
        · exact mapM_all hl (fun b hb => hg b (List.mem_cons_of_mem _ hb)) x hx

theorem fieldsBy_mem {kinds : TypeId → Option (List (Option IntKind))} : ∀ {l : List Field} {off : Nat} {r : List (Option IntKind)}, fieldsBy kinds P l off = some r → ∀ f ∈ l, ∃ k, kinds f.type = some k
  | [], _, _, _, f, hf => by cases hf
  | a :: l, off, r, h, f, hf => by
    unfold fieldsBy at h
    cases ho : Nat.beq a.offset off <;> simp only [ho, ift_false, ift_true, reduceCtorEq] at h
    cases hk : kinds a.type with
    | none => simp [hk] at h
    | some k =>
      simp only [hk] at h
      rcases List.mem_cons.1 hf with rfl | hf
      · exact ⟨k, hk⟩
      · cases hkl : Nat.beq k.length (P.cellsOf a.type) <;> simp only [hkl, ift_false, ift_true, reduceCtorEq] at h
        cases hrest : fieldsBy kinds P l (off + k.length) with
        | none => simp [hrest] at h
        | some r' => exact fieldsBy_mem hrest f hf

/-- Plain data read the same in any world; they touch no memory. -/
theorem plain_same : ∀ (d : Nat) (t : TypeId) (ks : List (Option IntKind)), kinds P d t = some ks → ∀ (fuel : Nat) (cs : List Value) (x : DataW H × List MemPlace),
    DataW.trod enc P w base spare held fuel t cs = some x → x.2 = [] ∧ ∀ (w' : World) (base' : Nat) (spare' : Nat → Bool) (held' : Bool), DataW.trod enc P w' base' spare' held' fuel t cs = some x
  | 0, _, _, h => by simp [kinds] at h
  | d + 1, t, ks, h => by
    intro fuel cs x hx
    have ih := plain_same d
    unfold kinds at h
    cases fuel with
    | zero => simp [DataW.trod] at hx
    | succ m =>
      cases hu : P.underlying t with
      | none => simp [hu] at h
      | some u =>
        cases u
        case int k =>
          obtain ⟨n, h1, h2, hw⟩ := DataW.trod_int hu hx
          subst h1; subst h2
          exact ⟨rfl, fun _ _ _ _ => by simp [DataW.trod, hu, hw]⟩
        case bool =>
          obtain ⟨b, h1, h2⟩ := DataW.trod_bool hu hx
          subst h1; subst h2
          exact ⟨rfl, fun _ _ _ _ => by simp [DataW.trod, hu]⟩
        case struct fs =>
          simp only [hu] at h
          cases hf : fieldsBy (kinds P d) P fs.toList 0 with
          | none => simp [hf] at h
          | some r =>
            unfold DataW.trod at hx
            rw [hu] at hx
            dsimp only at hx
            by_cases hl : cs.length = P.cellsOf t
            · rw [if_pos hl] at hx
              cases hm : fs.toList.mapM (fun f => DataW.trod enc P w base spare held m f.type ((cs.drop f.offset).take (P.cellsOf f.type))) with
              | none => simp [hm] at hx
              | some xs =>
                rw [hm] at hx
                simp only [Option.map_some, Option.some.injEq] at hx
                subst hx
                refine ⟨?_, fun w' b' s' h' => ?_⟩
                · have := mapM_all (p := fun y : DataW H × List MemPlace => y.2 = []) hm fun f hfm y hy => by
                    obtain ⟨k, hk⟩ := fieldsBy_mem hf f hfm
                    exact (ih f.type k hk m _ y hy).1
                  simpa [List.flatMap_eq_nil_iff] using this
                · unfold DataW.trod
                  rw [hu]
                  dsimp only
                  rw [if_pos hl, mapM_same hm fun f hfm y hy => by
                    obtain ⟨k, hk⟩ := fieldsBy_mem hf f hfm
                    exact (ih f.type k hk m _ y hy).2 w' b' s' h']
                  rfl
            · rw [if_neg hl] at hx; cases hx
        case array n e =>
          simp only [hu] at h
          cases hk : kinds P d e with
          | none => simp [hk] at h
          | some k =>
            unfold DataW.trod at hx
            rw [hu] at hx
            dsimp only at hx
            by_cases hl : cs.length = P.cellsOf t
            · rw [if_pos hl] at hx
              cases hm : (List.range n).mapM (fun i => DataW.trod enc P w base spare held m e ((cs.drop (i * P.cellsOf e)).take (P.cellsOf e))) with
              | none => simp [hm] at hx
              | some xs =>
                rw [hm] at hx
                simp only [Option.map_some, Option.some.injEq] at hx
                subst hx
                refine ⟨?_, fun w' b' s' h' => ?_⟩
                · have := mapM_all (p := fun y : DataW H × List MemPlace => y.2 = []) hm fun f _ y hy => (ih e k hk m _ y hy).1
                  simpa [List.flatMap_eq_nil_iff] using this
                · unfold DataW.trod
                  rw [hu]
                  dsimp only
                  rw [if_pos hl, mapM_same hm fun f _ y hy => (ih e k hk m _ y hy).2 w' b' s' h']
                  rfl
            · rw [if_neg hl] at hx; cases hx
        all_goals (simp only [hu, reduceCtorEq] at h)

end

/-! ## symbols for arguments -/
def symCells : List (Option IntKind) → Nat → List V
  | [], _ => []
  | some k :: ks, i => .int k (.var i (kmin k) (kmax k)) :: symCells ks (i + 1)
  | none :: ks, i => .bool (.var i 0 1) :: symCells ks (i + 1)

def valOf : Value → Int
  | .int _ n => n
  | .bool b => if b then 1 else 0
  | _ => 0

theorem symCells_spec {ρ : Env} : ∀ {ks : List (Option IntKind)} {cs : List Value} {i : Nat}, AllFit ks cs → (∀ (j : Nat) (v : Value), cs[j]? = some v → ρ.i (i + j) = valOf v) →
    V.dens ρ (symCells ks i) = cs ∧ V.oks ρ (symCells ks i)
  | [], [], _, _, _ => ⟨by simp only [symCells, V.dens], by simp only [symCells, V.oks]⟩
  | some k :: ks, v :: vs, i, ⟨h1, h2⟩, hv => by
    obtain ⟨n, rfl, hw⟩ := h1
    have h0 := hv 0 _ rfl
    simp only [Nat.add_zero, valOf] at h0
    obtain ⟨r1, r2⟩ := symCells_spec (ρ := ρ) (i := i + 1) h2 fun j v hj => by
      have := hv (j + 1) v (by simpa using hj)
      rw [← this]; congr 1; omega
    have hb : kmin k ≤ n ∧ n ≤ kmax k := by
      rw [kmin_eq, kmax_eq]
      simp only [Lit.wf, Bool.and_eq_true, decide_eq_true_eq] at hw
      exact hw
    refine ⟨?_, ?_⟩
    · simp only [symCells, V.dens, V.den, E.den, h0, r1]
    · simp only [symCells, V.oks, V.ok, E.ok, h0]
      exact ⟨hb, r2⟩
  | none :: ks, v :: vs, i, ⟨h1, h2⟩, hv => by
    obtain ⟨b, rfl⟩ := h1
    have h0 := hv 0 _ rfl
    simp only [Nat.add_zero, valOf] at h0
    obtain ⟨r1, r2⟩ := symCells_spec (ρ := ρ) (i := i + 1) h2 fun j v hj => by
      have := hv (j + 1) v (by simpa using hj)
      rw [← this]; congr 1; omega
    refine ⟨?_, ?_⟩
    · simp only [symCells, V.dens, V.den, E.den, h0, r1]
      cases b <;> simp
    · simp only [symCells, V.oks, V.ok, E.ok, h0]
      refine ⟨?_, r2⟩
      cases b <;> simp

def symArgs (P : Program) : List TypeId → Nat → Option (List V)
  | [], _ => some []
  | t :: ts, i => match P.underlying t, kinds P 20 t with
    | some u, some ks => match symArgs P ts (i + ks.length) with
      | some r => ift (aggD u) (some (.agg (symCells ks i) :: r)) <| (match symCells ks i with
        | [v] => some (v :: r)
        | _ => none)
      | none => none
    | _, _ => none

section
variable {H : Type} {enc : TypeId × Value → H} {P : Program} {w : World} {base : Nat} {spare : Nat → Bool} {held : Bool}

theorem symArgs_spec {W : World} {rc : Reach} {b0 : Nat} : ∀ (ts : List TypeId) (i : Nat) (xs : List V), symArgs P ts i = some xs →
    ∀ (vs : List Value) (ds : List (DataW H)) (p : List MemPlace), DataW.TrodAll enc P w base spare held ts vs ds p → (∀ (j : Nat) (t : TypeId) (v : Value), ts[j]? = some t → vs[j]? = some v → Value.okWide P W rc b0 t v) →
    p = [] ∧ (∀ (w' : World) (base' : Nat) (spare' : Nat → Bool) (held' : Bool), DataW.TrodAll enc P w' base' spare' held' ts vs ds []) ∧
      ∃ f : Nat → Int, ∀ ρ : Env, (∀ k, i ≤ k → ρ.i k = f k) → V.dens ρ xs = vs ∧ V.oks ρ xs
  | [], i, xs, h, vs, ds, p, hA, _ => by
    simp only [symArgs, Option.some.injEq] at h
    subst h
    obtain ⟨rfl, rfl, rfl⟩ := trodAll_nil hA
    exact ⟨rfl, fun _ _ _ _ => trodAll_mk0, fun _ => 0, fun ρ _ => ⟨by simp only [V.dens], by simp only [V.oks]⟩⟩
  | t :: ts, i, xs, h, vs, ds, p, hA, hval => by
    unfold symArgs at h
    cases hu : P.underlying t with
    | none => simp [hu] at h
    | some u =>
      cases hk : kinds P 20 t with
      | none => simp [hu, hk] at h
      | some ks =>
        simp only [hu, hk] at h
        cases hr : symArgs P ts (i + ks.length) with
        | none => simp [hr] at h
        | some r =>
          simp only [hr] at h
          obtain ⟨v, vs', d, ds', p1, q1, rfl, rfl, rfl, ⟨fuel, hx⟩, hrest⟩ := trodAll_cons hA
          obtain ⟨rfl, s1, f, hf⟩ := symArgs_spec ts (i + ks.length) r hr vs' ds' q1 hrest fun j t' v' ht' hv' => hval (j + 1) t' v' (by simpa using ht') (by simpa using hv')
          have hfit := kinds_spec 20 t ks hk fuel _ _ hx
          obtain ⟨e1, e2⟩ := plain_same 20 t ks hk fuel _ _ hx
          simp only at e1
          subst e1
          refine ⟨rfl, fun w' b' s' h' => trodAll_cons_mk ⟨fuel, e2 w' b' s' h'⟩ (s1 w' b' s' h'), fun k => if k < i + ks.length then valOf (v.cells.toList.getD (k - i) undef) else f k, fun ρ hρ => ?_⟩
          have hcells : ∀ j x, v.cells.toList[j]? = some x → ρ.i (i + j) = valOf x := by
            intro j x hj
            have hlt : j < v.cells.toList.length := (List.getElem?_eq_some_iff.1 hj).1
            rw [hfit.len] at hlt
            have e0 := hρ (i + j) (by omega)
            dsimp only at e0
            rw [e0, if_pos (by omega)]
            have : i + j - i = j := by omega
            rw [this, List.getD_eq_getElem?_getD, hj]; rfl
          obtain ⟨c1, c2⟩ := symCells_spec hfit hcells
          obtain ⟨r1, r2⟩ := hf ρ fun k hk => by
            have e0 := hρ k (by omega)
            dsimp only at e0
            rw [e0, if_neg (by omega)]
          have hok := hval 0 t v rfl rfl
          cases hagg : aggD u
          · simp only [hagg, ift_false] at h
            have one : ∃ x, v.cells.toList = [x] ∧ x = v := by
              unfold Value.okWide at hok
              have hk' := hk
              unfold kinds at hk'
              cases u <;> simp only [hu, reduceCtorEq] at hk' <;> simp only [aggD, Bool.true_eq_false] at hagg
              · obtain ⟨b, rfl⟩ := okWide_bool hu (hval 0 t v rfl rfl)
                exact ⟨_, rfl, rfl⟩
              · obtain ⟨n, rfl⟩ := okWide_int hu (hval 0 t v rfl rfl)
                exact ⟨_, rfl, rfl⟩
            obtain ⟨x, hx1, rfl⟩ := one
            cases hsc : symCells ks i with
            | nil => simp [hsc] at h
            | cons y l =>
              cases l with
              | cons z l => simp [hsc] at h
              | nil =>
                simp only [hsc, Option.some.injEq] at h
                subst h
                rw [hsc, hx1] at c1
                rw [hsc] at c2
                simp only [V.dens, List.cons.injEq, and_true] at c1
                simp only [V.oks, and_true] at c2
                refine ⟨by simp only [V.dens, c1, r1], ?_⟩
                simp only [V.oks]
                exact ⟨c2, r2⟩
          · simp only [hagg, ift_true, Option.some.injEq] at h
            subst h
            have hv : ∃ cs, v = .agg cs := by
              unfold Value.okWide at hok
              cases u <;> simp only [aggD, Bool.false_eq_true] at hagg
              · simp only [hu] at hok; obtain ⟨cs, h1, _⟩ := hok; exact ⟨cs, h1⟩
              · simp only [hu] at hok; obtain ⟨cs, h1, _⟩ := hok; exact ⟨cs, h1⟩
            obtain ⟨cs, rfl⟩ := hv
            simp only [Value.cells] at c1
            refine ⟨?_, ?_⟩
            · simp only [V.dens, V.den, c1, r1]
            · simp only [V.oks, V.ok]; exact ⟨c2, r2⟩

end

/-! ## laws -/
def allTrue : List (V × St) → Bool
  | [] => true
  | p :: l => (match p.1 with
    | .bool e => PC.prove 40 p.2.pc e
    | _ => false) && (match p.2.olds with | [] => true | _ => false) && allTrue l

/-- The law answers true on every way. -/
def lawOk (P : Program) (H : Hooks) (k : Nat) (f : FuncId) (ts : List TypeId) : Bool :=
  match symArgs P ts 0 with
  | some xs => match evCall P H k f xs (St.init PC.init) with
    | .ok r => allTrue r
    | .bad _ => false
  | none => false

theorem allTrue_spec {ρ : Env} : ∀ {r : List (V × St)}, allTrue r = true → ∀ p ∈ r, p.2.pc.holds ρ → p.1.ok ρ → p.1.den ρ = .bool true ∧ p.2.olds = []
  | [], _, p, hp, _, _ => by cases hp
  | q :: l, h, p, hp, hh, ho => by
    simp only [allTrue, Bool.and_eq_true] at h
    rcases List.mem_cons.1 hp with rfl | hp
    · have h1 := h.1.1
      have h2 : p.2.olds = [] := by
        have := h.1.2
        cases ho : p.2.olds with
        | nil => rfl
        | cons x l => rw [ho] at this; cases this
      refine ⟨?_, h2⟩
      cases hx : p.1 with
      | bool e =>
        rw [hx] at h1 ho
        dsimp only at h1
        simp only [V.ok] at ho
        have := prove_spec 40 hh ho h1
        simp only [V.den]
        rw [decide_eq_true this]
      | _ => rw [hx] at h1; cases h1
    · exact allTrue_spec h.2 p hp hh ho

theorem rep_init {ρ : Env} (h1 : ∀ i, ρ.addr i = ρ.w.heap.size + i) (h2 : ∀ i, ρ.dr i = ρ.w.drawn + i) {G : List (Nat × List Value)} (h3 : GlobsOk ρ G [] ρ.w := by exact GlobsOk.nil) : Rep ρ (St.init PC.init G) ρ.w :=
  ⟨(h1 0).symm, fun i => by simp only [St.init, h1]; omega, fun i hi => by simp [St.init] at hi, by rw [h1]; omega, fun i j hi => by simp [St.init] at hi, fun i hi => by simp [St.init] at hi, fun _ => trivial,
    fun _ _ h => by simp [St.init] at h, fun _ h => by simp [St.init] at h, fun _ _ _ => rfl, rfl, rfl, rfl, (h2 0).symm, fun i => by simp only [St.init, h2]; omega, fun _ => rfl, fun i _ => T.get_mk _ _ i, h3⟩

theorem holds_nil (ρ : Env) : PC.holds ρ PC.init := by
  have h1 : ∀ i, PC.init.bf.get [] i = [] := T.get_mk _ _
  have h2 : ∀ i, PC.init.rg.get [] i = [] := T.get_mk _ _
  refine ⟨⟨fun i p h => ?_, fun i p h => ?_, fun p h => ?_⟩, fun i p h => ?_, fun p h => ?_⟩
  · rw [h1] at h; cases h
  · rw [h2] at h; cases h
  · cases h
  · rw [h1] at h; cases h
  · cases h

theorem Rep.grown {ρ : Env} {st : St} {w : World} (h : Rep ρ st w) (ho : st.olds = []) : Grown ρ.w w := by
  refine ⟨⟨h.os, h.output, fun i hi => ?_⟩, h.froz, by rw [h.size]; exact h.base⟩
  have e := h.kept i hi (fun j hj => by simp [ho] at hj)
  rw [e]
  cases hx : ρ.w.heap[i]? with
  | none => trivial
  | some o =>
    cases o with
    | cells c t fr => exact ⟨rfl, rfl, rfl, fun _ _ => rfl⟩
    | map es clock => exact .inr ⟨rfl, rfl⟩
    | _ => rfl

section
variable {H' : Type} {enc : TypeId × Value → H'} {P : Program}

/-- A law over plain data that the evaluator finds true: its call answers true, and the world has at most new blocks. -/
theorem law_calls (hm : P.follows .mixedOrders = true) (hn : Enters P) {H : Hooks} (hH : ∀ ρ, HooksOk P ρ H) {k : Nat} {f : FuncId} {ts : List TypeId} (hlaw : lawOk P H k f ts = true)
    {W : World} {base : Nat} {spare : Nat → Bool} {held : Bool} {rc : Reach} {b0 : Nat} {args : Array Value} {ds : List (DataW H')} {p : List MemPlace}
    (hA : DataW.TrodAll enc P W base spare held ts args.toList ds p) (hval : ∀ (j : Nat) (t : TypeId) (v : Value), ts[j]? = some t → args[j]? = some v → Value.okWide P W rc b0 t v) :
    p = [] ∧ (∀ (w' : World) (base' : Nat) (spare' : Nat → Bool) (held' : Bool), DataW.TrodAll enc P w' base' spare' held' ts args.toList ds []) ∧
      Calls P f args W fun e w' => e = .returned (.bool true) ∧ Grown W w' := by
  unfold lawOk at hlaw
  cases hs : symArgs P ts 0 with
  | none => simp [hs] at hlaw
  | some xs =>
    simp only [hs] at hlaw
    cases he : evCall P H k f xs (St.init PC.init) with
    | bad c => simp [he] at hlaw
    | ok r =>
      simp only [he] at hlaw
      obtain ⟨h1, h2, g, hg⟩ := symArgs_spec ts 0 xs hs args.toList ds p hA (fun j t v ht hv => hval j t v ht (by simpa using hv))
      refine ⟨h1, h2, ?_⟩
      let ρ : Env := ⟨g, fun _ _ => 0, fun _ => 0, W, fun i => W.heap.size + i, fun i => W.drawn + i, fun _ => undef⟩
      obtain ⟨d1, d2⟩ := hg ρ fun _ _ => rfl
      have hc := (evCall_sound hm hn (hH ρ) k f xs (St.init PC.init) W r (rep_init (ρ := ρ) (fun _ => rfl) (fun _ => rfl)) (holds_nil ρ) d2 he).2
        (fun v w' => v = .bool true ∧ Grown W w') fun q hq w' hr' hp' ho' => ⟨(allTrue_spec hlaw q hq hp' ho').1, hr'.grown (allTrue_spec hlaw q hq hp' ho').2⟩
      rw [d1] at hc
      refine hc.mono fun e w' h => ?_
      cases e with
      | returned v => exact ⟨by rw [h.1], h.2⟩
      | panicked c => exact h.elim
      | outgrown => exact h.elim
end

/-- No function of the program is the one that is not entered. -/
def entersB (P : Program) : Bool := allB (fun fn : Func => !(fn.name == "runtime.NumGoroutine")) P.funcs.toList
theorem enters_of {P : Program} (h : entersB P = true) : Enters P := by
  intro f fn hf _ hname
  have hm : fn ∈ P.funcs.toList := by
    rw [← Array.getElem?_toList] at hf
    exact List.mem_of_getElem? hf
  have := allB_spec h fn hm
  simp [hname] at this

theorem hooks_none {P : Program} (ρ : Env) : HooksOk P ρ (fun _ => none) := fun _ _ h => by cases h

theorem trodAll_len {H : Type} {enc : TypeId × Value → H} {P : Program} {w : World} {base : Nat} {spare : Nat → Bool} {held : Bool} : ∀ {ts : List TypeId} {vs : List Value} {ds : List (DataW H)} {p : List MemPlace},
    DataW.TrodAll enc P w base spare held ts vs ds p → ds.length = ts.length
  | [], _, _, _, h => by obtain ⟨_, rfl, _⟩ := trodAll_nil h; rfl
  | t :: ts, _, _, _, h => by
    obtain ⟨v, vs', d, ds', p1, q1, rfl, rfl, rfl, _, hr⟩ := trodAll_cons h
    simp [trodAll_len hr]

end Go.Proofs.YtmacjmofhaghbaaDoor.Sy
end

/-
  A symbolic evaluator for the model's code: laws whose arguments bear what is not told (slices, maps, pointers inside structs): each such cell is itself, whatever it is.
-/
import Derived.Test.YtmacjmofhaghbaaDoorSyY
import Derived.Carry
noncomputable section
namespace Go.Proofs.YtmacjmofhaghbaaDoor.Sy
open Go Go.ChangeShapes Go.WideShapes Go.RowKit

/-- A cell: a number of a kind; a truth value; whatever it is. -/
inductive CK where
  | int (k : IntKind)
  | bool
  | any

def repCK (ks : List CK) : Nat → List CK
  | 0 => []
  | n + 1 => ks ++ repCK ks n
def fieldsCK (kinds : TypeId → Option (List CK)) (P : Program) : List Field → Nat → Option (List CK)
  | [], _ => some []
  | f :: fs, off => ift (Nat.beq f.offset off) ((match kinds f.type with
    | some k => ift (Nat.beq k.length (P.cellsOf f.type)) ((match fieldsCK kinds P fs (off + k.length) with
      | some r => some (k ++ r)
      | none => none)) <| none
    | none => none)) <| none
/-- The cells of a type. -/
def kindsCK (P : Program) : Nat → TypeId → Option (List CK)
  | 0, _ => none
  | d + 1, t => match P.underlying t with
    | some (.int k) => some [.int k]
    | some .bool => some [.bool]
    | some (.struct fs) => match fieldsCK (kindsCK P d) P fs.toList 0 with
      | some ks => ift (Nat.beq ks.length (P.cellsOf t)) (some ks) <| none
      | none => none
    | some (.array n e) => match kindsCK P d e with
      | some ks => ift (Nat.beq ks.length (P.cellsOf e) && Nat.beq (n * ks.length) (P.cellsOf t)) (some (repCK ks n)) <| none
      | none => none
    | some _ => some (repCK [.any] (P.cellsOf t))
    | none => none

def FitsCK : CK → Value → Prop
  | .int k, v => ∃ n, v = .int k n ∧ (Lit.int k n).wf = true
  | .bool, v => ∃ b, v = .bool b
  | .any, _ => True
def AllCK : List CK → List Value → Prop
  | [], [] => True
  | k :: ks, v :: vs => FitsCK k v ∧ AllCK ks vs
  | _, _ => False
theorem AllCK.append : ∀ {ks ks' : List CK} {vs vs' : List Value}, AllCK ks vs → AllCK ks' vs' → AllCK (ks ++ ks') (vs ++ vs')
  | [], _, [], _, _, h => h
  | _ :: _, _, _ :: _, _, ⟨h1, h2⟩, h => ⟨h1, h2.append h⟩
theorem AllCK.len : ∀ {ks : List CK} {vs : List Value}, AllCK ks vs → vs.length = ks.length
  | [], [], _ => rfl
  | _ :: _, _ :: _, ⟨_, h⟩ => by simp [h.len]
theorem repCK_length (ks : List CK) : ∀ n, (repCK ks n).length = n * ks.length
  | 0 => by simp [repCK]
  | n + 1 => by simp [repCK, repCK_length ks n, Nat.add_mul, Nat.add_comm]
theorem AllCK.any : ∀ {n : Nat} {vs : List Value}, vs.length = n → AllCK (repCK [.any] n) vs
  | 0, [], _ => trivial
  | 0, _ :: _, h => by simp at h
  | n + 1, [], h => by simp at h
  | n + 1, v :: vs, h => ⟨trivial, AllCK.any (by simpa using h)⟩

section
variable {H : Type} {enc : TypeId × Value → H} {P : Program} {w : World} {base : Nat} {spare : Nat → Bool} {held : Bool}

theorem kindsCK_spec : ∀ (d : Nat) (t : TypeId) (ks : List CK), kindsCK P d t = some ks → ∀ (fuel : Nat) (cs : List Value) (x : DataW H × List MemPlace),
    DataW.trod enc P w base spare held fuel t cs = some x → cs.length = P.cellsOf t → AllCK ks cs
  | 0, _, _, h => by simp [kindsCK] at h
  | d + 1, t, ks, h => by
    intro fuel cs x hx hcl
    have ih := kindsCK_spec d
    unfold kindsCK at h
    cases hu : P.underlying t with
    | none => simp [hu] at h
    | some u =>
      cases u
      case int k =>
        simp only [hu, Option.some.injEq] at h
        subst h
        obtain ⟨n, h1, _, hw⟩ := DataW.trod_int hu hx
        subst h1
        exact ⟨⟨n, rfl, hw⟩, trivial⟩
      case bool =>
        simp only [hu, Option.some.injEq] at h
        subst h
        obtain ⟨b, h1, _⟩ := DataW.trod_bool hu hx
        subst h1
        exact ⟨⟨b, rfl⟩, trivial⟩
      case struct fs =>
        simp only [hu] at h
        cases hf : fieldsCK (kindsCK P d) P fs.toList 0 with
        | none => simp [hf] at h
        | some r =>
          simp only [hf] at h
          cases hl : Nat.beq r.length (P.cellsOf t) <;> simp only [hl, ift_false, ift_true, Option.some.injEq, reduceCtorEq] at h
          subst h
          have hl := Nat.eq_of_beq_eq_true hl
          obtain ⟨xs, n, _, _, hlen, _, hfs⟩ := DataW.trod_struct hu hx
          have main : ∀ (l : List Field) (off : Nat) (r : List CK), fieldsCK (kindsCK P d) P l off = some r → off + r.length ≤ cs.length →
              (∀ (j : Nat) (f : Field), l[j]? = some f → ∃ y, DataW.trod enc P w base spare held n f.type ((cs.drop f.offset).take (P.cellsOf f.type)) = some y) →
              AllCK r ((cs.drop off).take r.length) := by
            intro l
            induction l with
            | nil =>
              intro off r hr _ _
              simp only [fieldsCK, Option.some.injEq] at hr
              subst hr
              simp [AllCK]
            | cons f l ihl =>
              intro off r hr hle hj
              unfold fieldsCK at hr
              cases ho : Nat.beq f.offset off <;> simp only [ho, ift_false, ift_true, reduceCtorEq] at hr
              have ho := Nat.eq_of_beq_eq_true ho
              cases hk : kindsCK P d f.type with
              | none => simp [hk] at hr
              | some k =>
                simp only [hk] at hr
                cases hkl : Nat.beq k.length (P.cellsOf f.type) <;> simp only [hkl, ift_false, ift_true, reduceCtorEq] at hr
                have hkl := Nat.eq_of_beq_eq_true hkl
                cases hrest : fieldsCK (kindsCK P d) P l (off + k.length) with
                | none => simp [hrest] at hr
                | some r' =>
                  simp only [hrest, Option.some.injEq] at hr
                  subst hr
                  rw [List.length_append] at hle
                  obtain ⟨y, hy⟩ := hj 0 f rfl
                  have h1 := ih f.type k hk n _ y hy (by rw [List.length_take, List.length_drop, ho, ← hkl]; omega)
                  have h2 := ihl (off + k.length) r' hrest (by omega) fun j f' hf' => hj (j + 1) f' (by simpa using hf')
                  rw [ho, ← hkl] at h1
                  have e : (cs.drop off).take (k ++ r').length = (cs.drop off).take k.length ++ (cs.drop (off + k.length)).take r'.length := by
                    rw [List.length_append, List.take_add, List.drop_drop]
                  rw [e]
                  exact h1.append h2
          have := main fs.toList 0 r hf (by omega) fun j f hj => by
            have hj' : fs[j]? = some f := by simpa using hj
            have hlt := (Array.getElem?_eq_some_iff.1 hj').1
            have h3 := hfs j f hj'
            rename_i hxl
            have hxs : xs[j]? = some (xs[j]'(by rw [hxl]; exact hlt)) := List.getElem?_eq_getElem _
            exact ⟨_, by rw [h3, hxs]⟩
          rw [List.drop_zero, List.take_of_length_le (by omega)] at this
          exact this
      case array n e =>
        simp only [hu] at h
        cases hk : kindsCK P d e with
        | none => simp [hk] at h
        | some k =>
          simp only [hk] at h
          cases hl : Nat.beq k.length (P.cellsOf e) && Nat.beq (n * k.length) (P.cellsOf t) <;> simp only [hl, ift_false, ift_true, Option.some.injEq, reduceCtorEq] at h
          subst h
          rw [Bool.and_eq_true] at hl
          have h1 := Nat.eq_of_beq_eq_true hl.1
          have h2 := Nat.eq_of_beq_eq_true hl.2
          obtain ⟨xs, m, _, _, hlen, hxl, hxs⟩ := DataW.trod_array hu hx
          have main : ∀ (r i : Nat), i + r = n → AllCK (repCK k r) ((cs.drop (i * k.length)).take (r * k.length)) := by
            intro r
            induction r with
            | zero => intro i _; simp [repCK, AllCK]
            | succ r ihr =>
              intro i hi
              have h3 := hxs i (by omega)
              have hx' : xs[i]? = some (xs[i]'(by omega)) := List.getElem?_eq_getElem _
              rw [hx'] at h3
              have hge : (i + 1) * k.length ≤ n * k.length := Nat.mul_le_mul_right _ (by omega)
              have hmul : (i + 1) * k.length = i * k.length + k.length := by rw [Nat.add_mul, Nat.one_mul]
              have h4 := ih e k hk m _ _ h3 (by rw [List.length_take, List.length_drop, ← h1]; omega)
              rw [← h1] at h4
              have h5 := ihr (i + 1) (by omega)
              have e : (cs.drop (i * k.length)).take ((r + 1) * k.length) = (cs.drop (i * k.length)).take k.length ++ (cs.drop ((i + 1) * k.length)).take (r * k.length) := by
                rw [Nat.add_mul, Nat.one_mul, Nat.add_comm, List.take_add, List.drop_drop, Nat.add_mul, Nat.one_mul]
              rw [e]
              exact h4.append h5
          have := main n 0 (by omega)
          rw [Nat.zero_mul, List.drop_zero, List.take_of_length_le (by omega)] at this
          exact this
      all_goals
        simp only [hu, Option.some.injEq] at h
        subst h
        exact AllCK.any hcl
end

def symCK : List CK → Nat → List V
  | [], _ => []
  | .int k :: ks, i => .int k (.var i (kmin k) (kmax k)) :: symCK ks (i + 1)
  | .bool :: ks, i => .bool (.var i 0 1) :: symCK ks (i + 1)
  | .any :: ks, i => .hole i :: symCK ks (i + 1)

theorem symCK_spec {ρ : Env} : ∀ {ks : List CK} {cs : List Value} {i : Nat}, AllCK ks cs → (∀ (j : Nat) (v : Value), cs[j]? = some v → ρ.i (i + j) = valOf v ∧ ρ.v (i + j) = v) →
    V.dens ρ (symCK ks i) = cs ∧ V.oks ρ (symCK ks i)
  | [], [], _, _, _ => ⟨by simp only [symCK, V.dens], by simp only [symCK, V.oks]⟩
  | k :: ks, v :: vs, i, ⟨h1, h2⟩, hv => by
    have h0 := hv 0 _ rfl
    simp only [Nat.add_zero] at h0
    obtain ⟨r1, r2⟩ := symCK_spec (ρ := ρ) (i := i + 1) h2 fun j v hj => by
      have := hv (j + 1) v (by simpa using hj)
      rwa [show i + 1 + j = i + (j + 1) by omega]
    cases k with
    | int k =>
      obtain ⟨n, rfl, hw⟩ := h1
      simp only [valOf] at h0
      have hb : kmin k ≤ n ∧ n ≤ kmax k := by
        rw [kmin_eq, kmax_eq]
        simp only [Lit.wf, Bool.and_eq_true, decide_eq_true_eq] at hw
        exact hw
      refine ⟨?_, ?_⟩
      · simp only [symCK, V.dens, V.den, E.den, h0.1, r1]
      · simp only [symCK, V.oks, V.ok, E.ok, h0.1]
        exact ⟨hb, r2⟩
    | bool =>
      obtain ⟨b, rfl⟩ := h1
      simp only [valOf] at h0
      refine ⟨?_, ?_⟩
      · simp only [symCK, V.dens, V.den, E.den, h0.1, r1]
        cases b <;> simp
      · simp only [symCK, V.oks, V.ok, E.ok, h0.1]
        refine ⟨?_, r2⟩
        cases b <;> simp
    | any =>
      refine ⟨?_, ?_⟩
      · simp only [symCK, V.dens, V.den, h0.2, r1]
      · simp only [symCK, V.oks, V.ok]
        exact ⟨trivial, r2⟩

/-- Symbols for arguments; those of one cell are numbers or truth values. -/
def symArgsR (P : Program) : List TypeId → Nat → Option (List V)
  | [], _ => some []
  | t :: ts, i => match P.underlying t, kindsCK P 20 t with
    | some u, some ks => match symArgsR P ts (i + ks.length) with
      | some r => (match u with
        | .struct _ | .array _ _ => some (.agg (symCK ks i) :: r)
        | .int _ | .bool => (match symCK ks i with
          | [v] => some (v :: r)
          | _ => none)
        | _ => none)
      | none => none
    | _, _ => none

section
variable {H : Type} {enc : TypeId × Value → H} {P : Program} {w : World} {base : Nat} {spare : Nat → Bool} {held : Bool}

theorem symArgsR_spec {W : World} {rc : Reach} {b0 : Nat} : ∀ (ts : List TypeId) (i : Nat) (xs : List V), symArgsR P ts i = some xs →
    ∀ (vs : List Value) (ds : List (DataW H)) (p : List MemPlace), DataW.TrodAll enc P w base spare held ts vs ds p → (∀ (j : Nat) (t : TypeId) (v : Value), ts[j]? = some t → vs[j]? = some v → Value.okWide P W rc b0 t v) →
      ∃ (f : Nat → Int) (g : Nat → Value), ∀ ρ : Env, (∀ k, i ≤ k → ρ.i k = f k ∧ ρ.v k = g k) → V.dens ρ xs = vs ∧ V.oks ρ xs
  | [], i, xs, h, vs, ds, p, hA, _ => by
    simp only [symArgsR, Option.some.injEq] at h
    subst h
    obtain ⟨rfl, rfl, rfl⟩ := trodAll_nil hA
    exact ⟨fun _ => 0, fun _ => undef, fun ρ _ => ⟨by simp only [V.dens], by simp only [V.oks]⟩⟩
  | t :: ts, i, xs, h, vs, ds, p, hA, hval => by
    unfold symArgsR at h
    cases hu : P.underlying t with
    | none => simp [hu] at h
    | some u =>
      cases hk : kindsCK P 20 t with
      | none => simp [hu, hk] at h
      | some ks =>
        simp only [hu, hk] at h
        cases hr : symArgsR P ts (i + ks.length) with
        | none => simp [hr] at h
        | some r =>
          simp only [hr] at h
          obtain ⟨v, vs', d, ds', p1, q1, rfl, rfl, rfl, ⟨fuel, hx⟩, hrest⟩ := trodAll_cons hA
          obtain ⟨f, g, hf⟩ := symArgsR_spec ts (i + ks.length) r hr vs' ds' q1 hrest fun j t' v' ht' hv' => hval (j + 1) t' v' (by simpa using ht') (by simpa using hv')
          have hok := hval 0 t v rfl rfl
          -- a whole argument
          have whole : v.cells.toList.length = P.cellsOf t → ∃ (f' : Nat → Int) (g' : Nat → Value), ∀ ρ : Env, (∀ k, i ≤ k → ρ.i k = f' k ∧ ρ.v k = g' k) →
              (V.dens ρ (symCK ks i) = v.cells.toList ∧ V.oks ρ (symCK ks i)) ∧ V.dens ρ r = vs' ∧ V.oks ρ r := by
            intro hcl
            have hfit := kindsCK_spec 20 t ks hk fuel _ _ hx hcl
            have hlen := hfit.len
            refine ⟨fun k => if k < i + ks.length then valOf (v.cells.toList.getD (k - i) undef) else f k, fun k => if k < i + ks.length then v.cells.toList.getD (k - i) undef else g k, fun ρ hρ => ?_⟩
            refine ⟨symCK_spec hfit fun j x hj => ?_, hf ρ fun k hk => ?_⟩
            · have hlt : j < v.cells.toList.length := (List.getElem?_eq_some_iff.1 hj).1
              have e0 := hρ (i + j) (by omega)
              dsimp only at e0
              have hj2 : i + j - i = j := by omega
              rw [if_pos (by omega), if_pos (by omega), hj2, List.getD_eq_getElem?_getD, hj] at e0
              exact e0
            · have e0 := hρ k (by omega)
              dsimp only at e0
              rw [if_neg (by omega), if_neg (by omega)] at e0
              exact e0
          have agg : aggD u = true → xs = .agg (symCK ks i) :: r → v.cells.toList.length = P.cellsOf t →
              ∃ (f : Nat → Int) (g : Nat → Value), ∀ ρ : Env, (∀ k, i ≤ k → ρ.i k = f k ∧ ρ.v k = g k) → V.dens ρ xs = v :: vs' ∧ V.oks ρ xs := by
            intro ha hxs hcl
            subst hxs
            obtain ⟨f', g', hw⟩ := whole hcl
            have hv : ∃ cs, v = .agg cs := by
              unfold Value.okWide at hok
              cases u <;> simp only [aggD, Bool.false_eq_true] at ha
              · simp only [hu] at hok; obtain ⟨cs, h1, _⟩ := hok; exact ⟨cs, h1⟩
              · simp only [hu] at hok; obtain ⟨cs, h1, _⟩ := hok; exact ⟨cs, h1⟩
            obtain ⟨cs, rfl⟩ := hv
            refine ⟨f', g', fun ρ hρ => ?_⟩
            obtain ⟨⟨c1, c2⟩, r1, r2⟩ := hw ρ hρ
            simp only [Value.cells] at c1
            exact ⟨by simp only [V.dens, V.den, c1, r1], by simp only [V.oks, V.ok]; exact ⟨c2, r2⟩⟩
          have one : (∃ x, v.cells.toList = [x] ∧ x = v) → (match symCK ks i with | [y] => some (y :: r) | _ => none) = some xs → P.cellsOf t = 1 →
              ∃ (f : Nat → Int) (g : Nat → Value), ∀ ρ : Env, (∀ k, i ≤ k → ρ.i k = f k ∧ ρ.v k = g k) → V.dens ρ xs = v :: vs' ∧ V.oks ρ xs := by
            intro ⟨x, hx1, hxv⟩ hm hc1
            subst hxv
            obtain ⟨f', g', hw⟩ := whole (by rw [hx1, hc1]; rfl)
            refine ⟨f', g', fun ρ hρ => ?_⟩
            obtain ⟨⟨c1, c2⟩, r1, r2⟩ := hw ρ hρ
            cases hsc : symCK ks i with
            | nil => simp [hsc] at hm
            | cons y l =>
              cases l with
              | cons z l => simp [hsc] at hm
              | nil =>
                simp only [hsc, Option.some.injEq] at hm
                subst hm
                rw [hsc, hx1] at c1
                rw [hsc] at c2
                simp only [V.dens, List.cons.injEq, and_true] at c1
                simp only [V.oks, and_true] at c2
                exact ⟨by simp only [V.dens, c1, r1], by simp only [V.oks]; exact ⟨c2, r2⟩⟩
          cases u <;> simp only [reduceCtorEq, Option.some.injEq] at h
          case struct fs =>
            obtain ⟨xs', n, _, _, hlen, _⟩ := DataW.trod_struct hu hx
            exact agg rfl h.symm hlen
          case array n e =>
            obtain ⟨xs', m, _, _, hlen, _⟩ := DataW.trod_array hu hx
            exact agg rfl h.symm hlen
          case int k =>
            have hks : ks = [.int k] := by
              have := hk
              unfold kindsCK at this
              simp only [hu, Option.some.injEq] at this
              exact this.symm
            subst hks
            obtain ⟨n, hc, _, hw⟩ := DataW.trod_int hu hx
            obtain ⟨f', g', hh⟩ : ∃ (f' : Nat → Int) (g' : Nat → Value), ∀ ρ : Env, (∀ k, i ≤ k → ρ.i k = f' k ∧ ρ.v k = g' k) → (ρ.i i = n) ∧ V.dens ρ r = vs' ∧ V.oks ρ r := by
              refine ⟨fun k => if k < i + 1 then n else f k, fun k => g k, fun ρ hρ => ⟨?_, hf ρ fun k hk => ?_⟩⟩
              · have := (hρ i (Nat.le_refl _)).1
                dsimp only at this
                rwa [if_pos (by omega)] at this
              · simp only [List.length_cons, List.length_nil] at hk
                have := hρ k (by omega)
                dsimp only at this
                rwa [if_neg (by omega)] at this
            refine ⟨f', g', fun ρ hρ => ?_⟩
            obtain ⟨a1, a2, a3⟩ := hh ρ hρ
            simp only [symCK, Option.some.injEq] at h
            subst h
            have hv : v = .int k n := by
              obtain ⟨m, rfl⟩ := okWide_int hu hok
              simp [Value.cells] at hc
              rw [hc]
            have hb : kmin k ≤ n ∧ n ≤ kmax k := by
              rw [kmin_eq, kmax_eq]
              simp only [Lit.wf, Bool.and_eq_true, decide_eq_true_eq] at hw
              exact hw
            subst hv
            exact ⟨by simp only [V.dens, V.den, E.den, a1, a2], by simp only [V.oks, V.ok, E.ok, a1]; exact ⟨hb, a3⟩⟩
          case bool =>
            have hks : ks = [.bool] := by
              have := hk
              unfold kindsCK at this
              simp only [hu, Option.some.injEq] at this
              exact this.symm
            subst hks
            obtain ⟨b, rfl⟩ := okWide_bool hu hok
            refine ⟨fun k => if k < i + 1 then (if b then 1 else 0) else f k, fun k => g k, fun ρ hρ => ?_⟩
            have a1 := (hρ i (Nat.le_refl _)).1
            dsimp only at a1
            rw [if_pos (by omega)] at a1
            obtain ⟨a2, a3⟩ := hf ρ fun k hk => by
              simp only [List.length_cons, List.length_nil] at hk
              have := hρ k (by omega)
              dsimp only at this
              rwa [if_neg (by omega)] at this
            simp only [symCK, Option.some.injEq] at h
            subst h
            refine ⟨?_, ?_⟩
            · simp only [V.dens, V.den, E.den, a1, a2]
              cases b <;> simp
            · simp only [V.oks, V.ok, E.ok, a1]
              refine ⟨?_, a3⟩
              cases b <;> simp

theorem Rep.under {ρ : Env} {st : St} {w' : World} (h : Rep ρ st w') (ho : st.olds = []) : Below ρ.w.heap.size ρ.w w' :=
  ⟨h.os, h.tape, h.output, by rw [h.size]; exact h.base, fun k hk => h.kept k hk (fun j hj => by simp [ho] at hj)⟩

/-- The law answers true on every way of a part; with cuts; its arguments may bear what is not told. -/
def lawPartR (P : Program) (G : List (Nat × List Value)) (H : Hooks) (cuts : List (List Cut)) (k : Nat) (f : FuncId) (ts : List TypeId) (ps : List (List (Nat × Int))) (j : Nat) : Bool :=
  match symArgsR P ts 0 with
  | some xs => match partPC (partTests (flatE xs) ps) j PC.init with
    | none => true
    | some pc => match evCallT P H (nth [] cuts j) k f xs (St.init pc G) with
      | .ok r => allTrue r
      | .bad _ => false
  | none => false

theorem law_partsR (hm : P.follows .mixedOrders = true) (hn : Enters P) {G : List (Nat × List Value)} {H' : Hooks} (hH : ∀ ρ, HooksOk P ρ H') {cuts : List (List Cut)} {k : Nat} {f : FuncId} {ts : List TypeId} {ps : List (List (Nat × Int))}
    (hlaw : ∀ j, j ≤ ps.length → lawPartR P G H' cuts k f ts ps j = true)
    {W : World} (hG : Laid G W) {base : Nat} {spare : Nat → Bool} {held : Bool} {rc : Reach} {b0 : Nat} {args : Array Value} {ds : List (DataW H)} {p : List MemPlace}
    (hA : DataW.TrodAll enc P W base spare held ts args.toList ds p) (hval : ∀ (j : Nat) (t : TypeId) (v : Value), ts[j]? = some t → args[j]? = some v → Value.okWide P W rc b0 t v) :
      Calls P f args W fun e w' => e = .returned (.bool true) ∧ Grown W w' ∧ Below W.heap.size W w' := by
  cases hs : symArgsR P ts 0 with
  | none =>
    have := hlaw 0 (Nat.zero_le _)
    simp [lawPartR, hs] at this
  | some xs =>
    obtain ⟨g, gv, hg⟩ := symArgsR_spec ts 0 xs hs args.toList ds p hA (fun j t v ht hv => hval j t v ht (by simpa using hv))
    let ρ : Env := ⟨g, fun _ _ => 0, fun _ => 0, W, fun i => W.heap.size + i, fun i => W.drawn + i, gv⟩
    obtain ⟨d1, d2⟩ := hg ρ fun _ _ => ⟨rfl, rfl⟩
    obtain ⟨j, pc, j1, j2, j3⟩ := partPC_spec (partTests (flatE xs) ps) (holds_nil ρ) (partTests_ok (flatE_ok d2) ps)
    rw [partTests_length] at j1
    have hl := hlaw j j1
    simp only [lawPartR, hs, j2] at hl
    cases he : evCallT P H' (nth [] cuts j) k f xs (St.init pc G) with
    | bad c => simp [he] at hl
    | ok r =>
      simp only [he] at hl
      have hc := evCallT_sound hm hn hH (rep_initS (ρ := ρ) (fun _ => rfl) (fun _ => rfl) pc (Laid.ok (ρ := ρ) hG)) j3 d2 he
        (fun v w' => v = .bool true ∧ Grown W w' ∧ Below W.heap.size W w') fun ρ' hW q hq w' hr' hp' ho' => by
          have h2 := (allTrue_spec hl q hq hp' ho')
          have h3 := hr'.grown h2.2
          have h4 := hr'.under h2.2
          rw [hW] at h3 h4
          exact ⟨h2.1, h3, h4⟩
      rw [d1] at hc
      refine hc.mono fun e w' h => ?_
      cases e with
      | returned v => exact ⟨by rw [h.1], h.2⟩
      | panicked c => exact h.elim
      | outgrown => exact h.elim

/-- Arguments read behind the call as they did. -/
theorem trodAll_stays {W W' : World} (hl : laidOutB P = true) (hb : Below W.heap.size W W') {sp : Nat → Bool} : ∀ {ts : List TypeId} {vs : List Value} {ds : List (DataW H)} {p : List MemPlace},
    (∀ t ∈ ts, P.readableRec t = true ∧ t < P.types.size) → DataW.TrodAll enc P W 0 (fun _ => true) true ts vs ds p → (∀ x ∈ p, x.block < W.heap.size) → (∀ x ∈ p, sp x.block = true) →
    DataW.TrodAll enc P W' 0 sp true ts vs ds p
  | [], _, _, _, _, h, _, _ => by obtain ⟨rfl, rfl, rfl⟩ := trodAll_nil h; exact trodAll_mk0
  | t :: ts, _, _, _, ht, h, hlt, hsp => by
    obtain ⟨v, vs', d, ds', p1, q1, rfl, rfl, rfl, h1, h2⟩ := trodAll_cons h
    obtain ⟨r1, r2⟩ := ht t (by simp)
    exact trodAll_cons_mk (WideElems.Trod_stays hl r1 r2 h1 (fun x hx => hb.same (hlt x (List.mem_append_left _ hx))) (fun x hx => hsp x (List.mem_append_left _ hx)))
      (trodAll_stays hl hb (fun u hu => ht u (List.mem_cons_of_mem _ hu)) h2 (fun x hx => hlt x (List.mem_append_right _ hx)) (fun x hx => hsp x (List.mem_append_right _ hx)))
end

theorem readables {P : Program} {ts : List TypeId} (h : (ts.all fun t => P.readableRec t && Nat.blt t P.types.size) = true) : ∀ t ∈ ts, P.readableRec t = true ∧ t < P.types.size := fun t ht => by
  have := List.all_eq_true.1 h t ht
  simp only [Bool.and_eq_true, Nat.blt_eq] at this
  exact this

end Go.Proofs.YtmacjmofhaghbaaDoor.Sy
end

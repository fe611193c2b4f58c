/-
  A symbolic evaluator for the model's code: forks, guards, lists of operations.
-/
import Derived.Test.YtmacjmofhaghbaaDoorSyN
import Derived.Test.YtmacjmofhaghbaaDoorSyC
import Derived.Tactics
import Derived.Orders
noncomputable section
namespace Go.Proofs.YtmacjmofhaghbaaDoor.Sy
open Go

section
variable {P : Program} {ρ : Env} {st : St} {w : World}

theorem forkOn_spec {α : Type} (hp : st.pc.holds ρ) {q : E} (hq : q.ok ρ) {k : St → Res α} {l : List α} (h : forkOn st q k = .ok l) :
    ∃ p l', p.holds ρ ∧ k (st.know p) = .ok l' ∧ ∀ x ∈ l', x ∈ l := by
  unfold forkOn at h
  have both_l : ∀ {a b : Res α} {l : List α}, both a b = .ok l → ∃ x y, a = .ok x ∧ b = .ok y ∧ l = x ++ y := by
    intro a b l h
    cases a <;> cases b <;> simp only [both, Res.ok.injEq, reduceCtorEq] at h
    exact ⟨_, _, rfl, rfl, h.symm⟩
  by_cases h0 : q.den ρ = 0
  · obtain ⟨p, h1, h2⟩ := PC.put_false hp hq h0
    cases ht : st.pc.put q true with
    | none => simp only [ht, h1] at h; exact ⟨p, l, h2, h, fun _ hx => hx⟩
    | some p' =>
      simp only [ht, h1] at h
      obtain ⟨x, y, e1, e2, rfl⟩ := both_l h
      exact ⟨p, y, h2, e2, fun _ hx => List.mem_append_right _ hx⟩
  · obtain ⟨p, h1, h2⟩ := PC.put_true hp hq h0
    cases ht : st.pc.put q false with
    | none => simp only [ht, h1] at h; exact ⟨p, l, h2, h, fun _ hx => hx⟩
    | some p' =>
      simp only [ht, h1] at h
      obtain ⟨x, y, e1, e2, rfl⟩ := both_l h
      exact ⟨p, x, h2, e1, fun _ hx => List.mem_append_left _ hx⟩

theorem flat_spec {α β : Type} {f : α → Res β} : ∀ {l : List α} {r : List β}, flat f l = .ok r → ∀ x ∈ l, ∃ r', f x = .ok r' ∧ ∀ y ∈ r', y ∈ r
  | [], _, _, x, hx => by cases hx
  | [a], r, h, x, hx => by
    simp only [List.mem_singleton] at hx
    subst hx
    exact ⟨r, h, fun _ h => h⟩
  | a :: b :: l, r, h, x, hx => by
    have h : both (f a) (flat f (b :: l)) = .ok r := h
    cases ha : f a with
    | bad c => rw [ha] at h; simp [both] at h
    | ok m =>
      cases hb : flat f (b :: l) with
      | bad c => rw [ha, hb] at h; simp [both] at h
      | ok m' =>
        rw [ha, hb] at h
        simp only [both, Res.ok.injEq] at h
        subst h
        rcases List.mem_cons.1 hx with rfl | hx
        · exact ⟨m, ha, fun _ h => List.mem_append_left _ h⟩
        · obtain ⟨r', h1, h2⟩ := flat_spec hb x hx
          exact ⟨r', h1, fun y hy => List.mem_append_right _ (h2 y hy)⟩

/-- A temporary stands so. -/
def Sees (ρ : Env) (t : T V) (a : Act) (d : Nat) : Prop := a.tmps[d]? = some ((t.get .un d).den ρ) ∧ (t.get .un d).ok ρ

theorem side_spec {b : Bool} {e : E} (h : e.ok ρ) : (((side b e).den ρ ≠ 0) = (decide (e.den ρ ≠ 0) = b)) ∧ (side b e).ok ρ := by
  unfold side
  cases b
  · obtain ⟨h1, h2⟩ := mkNot_spec h
    refine ⟨?_, h2⟩
    simp only [ift_false]
    rw [h1]
    by_cases h0 : e.den ρ = 0 <;> simp [h0]
  · refine ⟨?_, h⟩
    simp only [ift_true]
    by_cases h0 : e.den ρ = 0 <;> simp [h0]

theorem wantE_spec {pc : PC} (hp : pc.holds ρ) {f : E} (hf : f.ok ρ) : match wantE pc f with
    | .yes => f.den ρ ≠ 0
    | .no => f.den ρ = 0
    | .ask e => e = f
    | .bad => True := by
  unfold wantE
  cases ht : pc.tell f with
  | none => exact rfl
  | some r =>
    have := PC.tell_spec hp hf ht
    cases r
    · simpa using this
    · simpa using this

theorem wants_spec {ops : List Oper} {n : Nat} {t : T V} {pc : PC} (hp : pc.holds ρ) {a : Act} {o : Oper}
    (hs : ∀ j b g d, o.guard = some (j, b) → ops[j]? = some g → g.dst = some d → d < n → Sees ρ t a d) :
    match wants ops n t pc o.guard with
    | .yes => Region.wanted o (yielded ops.toArray a.tmps) = true
    | .no => Region.wanted o (yielded ops.toArray a.tmps) = false
    | .ask e => e.ok ρ ∧ Region.wanted o (yielded ops.toArray a.tmps) = decide (e.den ρ ≠ 0)
    | .bad => True := by
  unfold wants Region.wanted yielded
  cases hg : o.guard with
  | none => trivial
  | some p =>
    obtain ⟨j, b⟩ := p
    dsimp only
    cases hj : ops[j]? with
    | none => trivial
    | some g =>
      dsimp only
      cases hd : g.dst with
      | none => trivial
      | some d =>
        dsimp only
        cases hn : Nat.blt d n
        · trivial
        · simp only [ift_true]
          have hlt : d < n := by simpa [Nat.blt_eq] using hn
          obtain ⟨s1, s2⟩ := hs j b g d hg hj hd hlt
          obtain ⟨e1, e2⟩ := strip_spec hp _ s2
          rw [← e1] at s1
          -- a test that tells whether it is wanted
          have fin : ∀ f : E, f.ok ρ → ∀ x : Bool, x = decide (f.den ρ ≠ 0) →
              match wantE pc f with
              | .yes => x = true
              | .no => x = false
              | .ask e => e.ok ρ ∧ x = decide (e.den ρ ≠ 0)
              | .bad => True := by
            intro f hf x hx
            have := wantE_spec hp hf
            cases hw : wantE pc f with
            | yes => rw [hw] at this; dsimp only at this ⊢; rw [hx, decide_eq_true_eq]; exact this
            | no => rw [hw] at this; dsimp only at this ⊢; rw [hx, decide_eq_false_iff_not]; simpa using this
            | ask e => rw [hw] at this; dsimp only at this ⊢; subst this; exact ⟨hf, hx⟩
            | bad => trivial
          cases hv : (t.get .un d).strip pc with
          | bool e =>
            rw [hv] at s1 e2
            simp only [V.den] at s1
            simp only [V.ok] at e2
            obtain ⟨f1, f2⟩ := side_spec (b := b) e2
            refine fin _ f2 _ ?_
            have : decide ((side b e).den ρ ≠ 0) = (decide (e.den ρ ≠ 0) == b) := by
              rw [Bool.eq_iff_iff, decide_eq_true_eq, f1]; simp
            rw [this]
            generalize decide (e.den ρ ≠ 0) = c at s1
            cases c <;> cases b <;> simp [hj, hd, s1]
          | lit v =>
            rw [hv] at s1
            simp only [V.den] at s1
            cases v <;> first | trivial | (dsimp only; simp [hj, hd, s1])
          | opt g v =>
            rw [hv] at s1 e2
            dsimp only
            cases v <;> try exact trivial
            rename_i e
            simp only [V.ok] at e2
            simp only [V.den] at s1
            dsimp only
            obtain ⟨m1, m2⟩ := mkIte_spec (ρ := ρ) (c := g) (a := side b e) (b := .lit 0) e2.1 (fun h => (side_spec (b := b) (e2.2 h)).2) (fun _ => trivial)
            refine fin _ m2 _ ?_
            rw [m1]
            by_cases h0 : g.den ρ = 0
            · rw [if_pos h0] at s1
              simp [hj, hd, s1, h0, E.den, undef]
            · rw [if_neg h0] at s1
              rw [if_neg h0]
              have : decide ((side b e).den ρ ≠ 0) = (decide (e.den ρ ≠ 0) == b) := by
                rw [Bool.eq_iff_iff, decide_eq_true_eq, (side_spec (b := b) (e2.2 h0)).1]; simp
              rw [this]
              generalize decide (e.den ρ ≠ 0) = c at s1
              cases c <;> cases b <;> simp [hj, hd, s1]
          | _ => trivial

theorem rdT_spec {n : Nat} {t : T V} {a : Act} {x : Operand} (h : ∀ d, x = .tmp d → d < n ∧ Sees ρ t a d) : a.eval x = (rdT n t x).den ρ ∧ (rdT n t x).ok ρ := by
  cases x with
  | tmp d =>
    obtain ⟨h1, h2, h3⟩ := h d rfl
    have : Nat.blt d n = true := by simpa [Nat.blt_eq] using h1
    simp only [rdT, this, ift_true]
    exact ⟨by simp [Act.eval, h2], h3⟩
  | const v =>
    obtain ⟨h1, h2⟩ := den_ofValue ρ v
    exact ⟨h1.symm, h2⟩
  | global g => exact ⟨by simp [Act.eval, rdT, V.den, B.no], by simp [rdT, V.ok]⟩
  | func f => exact ⟨by simp [Act.eval, rdT, V.den, V.dens], by simp [rdT, V.ok, V.oks]⟩

namespace Fr
variable {n : Nat} {t : T V} {a : Act}

theorem sees (h : Fr ρ n t a) {d : Nat} (hd : d < n) : Sees ρ t a d := ⟨h.val d hd, h.ok d⟩

theorem reads (h : Fr ρ n t a) : Reads ρ a.eval (rdT n t) := by
  intro x
  cases x with
  | tmp d =>
    by_cases hd : d < n
    · exact rdT_spec fun d' e => by cases e; exact ⟨hd, h.sees hd⟩
    · have hb : Nat.blt d n = false := by rw [← Bool.not_eq_true, Nat.blt_eq]; exact hd
      have hno : a.tmps[d]? = none := Array.getElem?_eq_none (by rw [h.size]; exact Nat.le_of_not_lt hd)
      simp only [rdT, hb, ift_false]
      exact ⟨by simp [Act.eval, hno, V.un, V.den], ok_un ρ⟩
  | _ => exact rdT_spec fun d e => by cases e

theorem readsS (h : Fr ρ n t a) {pc : PC} (hp : pc.holds ρ) : Reads ρ a.eval (rdS n t pc) := by
  intro x
  obtain ⟨h1, h2⟩ := h.reads x
  obtain ⟨h3, h4⟩ := strip_spec hp _ h2
  exact ⟨by rw [h1]; exact h3.symm, h4⟩

theorem put (h : Fr ρ n t a) (dst : Option Tmp) {v : V} (hv : v.ok ρ) : Fr ρ n (putT n t dst v) (a.put dst (v.den ρ)) := by
  cases dst with
  | none => exact h
  | some d =>
    obtain ⟨k, hk, hkn⟩ := h.full
    by_cases hd : d < n
    · have hb : Nat.blt d n = true := by simpa [Nat.blt_eq] using hd
      simp only [putT, hb, ift_true, Act.put]
      refine ⟨h.defers, by simp [h.size], ⟨k, T.full_set hk _ _, hkn⟩, fun i hi => ?_, fun i => ?_⟩
      · by_cases hid : d = i
        · subst hid
          rw [T.get_set_eq _ _ hk _ (Nat.lt_of_lt_of_le hd hkn)]
          simp [h.size, hd]
        · rw [T.get_set_ne _ _ _ _ _ hid]
          simp only [Array.getElem?_setIfInBounds_ne hid]
          exact h.val i hi
      · by_cases hid : d = i
        · subst hid; rw [T.get_set_eq _ _ hk _ (Nat.lt_of_lt_of_le hd hkn)]; exact hv
        · rw [T.get_set_ne _ _ _ _ _ hid]; exact h.ok i
    · have hb : Nat.blt d n = false := by rw [← Bool.not_eq_true, Nat.blt_eq]; exact hd
      simp only [putT, hb, ift_false, Act.put]
      have e : a.tmps.setIfInBounds d (v.den ρ) = a.tmps := Array.setIfInBounds_eq_of_size_le (by rw [h.size]; exact Nat.le_of_not_lt hd)
      rw [e]
      exact h

theorem wants (h : Fr ρ n t a) {ops : List Oper} {pc : PC} (hp : pc.holds ρ) (o : Oper) :
    match Go.Proofs.YtmacjmofhaghbaaDoor.Sy.wants ops n t pc o.guard with
    | .yes => Region.wanted o (yielded ops.toArray a.tmps) = true
    | .no => Region.wanted o (yielded ops.toArray a.tmps) = false
    | .ask e => e.ok ρ ∧ Region.wanted o (yielded ops.toArray a.tmps) = decide (e.den ρ ≠ 0)
    | .bad => True := wants_spec hp fun _ _ _ _ _ _ _ hd => h.sees hd
end Fr

/-- Calls answer as the evaluator says. -/
def CallOk (P : Program) (ρ : Env) (call : Calls1) : Prop :=
  ∀ (f : FuncId) (args : List V) (st : St) (w : World) (r : List (V × St)), Rep ρ st w → st.pc.holds ρ → V.oks ρ args → call f args st = .ok r →
    (callFunc f (V.dens ρ args).toArray).run P w = .ok (.enter f (V.dens ρ args).toArray) w ∧
    ∀ R : Value → World → Prop, (∀ p ∈ r, ∀ w', Rep ρ p.2 w' → p.2.pc.holds ρ → p.1.ok ρ → R (p.1.den ρ) w') →
      Calls P f (V.dens ρ args).toArray w (fun | .returned v, w' => R v w' | _, _ => False)

/-- Functions that leave the heap as it is do so in the evaluator. -/
def Calm (P : Program) (call : Calls1) : Prop := ∀ (f : FuncId), pureF P f = true → ∀ (args : List V) (st : St) (r : List (V × St)), call f args st = .ok r → ∀ q ∈ r, ∃ pc, q.2 = st.know pc

/-- What follows an operation, by what it comes to. -/
def Follows (P : Program) (ρ : Env) (st : St) (w : World) (o : Oper) (a : Act) (K : Act → World → Prop) : R → Prop
  | .val v => v.ok ρ → K (a.put o.dst (v.den ρ)) w
  | .new v b => ∀ w', v.ok ρ → Rep ρ (st.alloc b) w' → K (a.put o.dst (v.den ρ)) w'
  | .newD v b => ∀ w', v.ok ρ → Rep ρ (st.allocD b) w' → K (a.put o.dst (v.den ρ)) w'
  | .upd v b x => ∀ w', v.ok ρ → Rep ρ (st.upd b x) w' → K (a.put o.dst (v.den ρ)) w'
  | .call f args => V.oks ρ args → (callFunc f (V.dens ρ args).toArray).run P w = .ok (.enter f (V.dens ρ args).toArray) w ∧
      Calls P f (V.dens ρ args).toArray w (fun | .returned v, w' => K (a.put o.dst v) w' | _, _ => False)
  | .need _ => False
  | .fail _ => False

theorem upon_of_lands {o : Oper} {a : Act} {K : Act → World → Prop} {Q : Exit → Act → World → Prop} {r : Result Next} {q : R} (hl : Lands P ρ st w r q)
    (h : Follows P ρ st w o a K q) : o.upon P a K Q r := by
  cases q with
  | val v => obtain ⟨h1, h2⟩ := hl; rw [h1]; exact h h2
  | new v b => obtain ⟨w', h1, h2, h3⟩ := hl; rw [h1]; exact h w' h2 h3
  | newD v b => obtain ⟨w', h1, h2, h3⟩ := hl; rw [h1]; exact h w' h2 h3
  | upd v b x =>
    obtain ⟨w', h1 | ⟨h1, hu⟩, h2, h3⟩ := hl
    · rw [h1]; exact h w' h2 h3
    · rw [h1]
      have := h w' h2 h3
      rw [hu] at this
      exact this
  | call f args =>
    obtain ⟨h1, h2⟩ := hl
    obtain ⟨c1, c2⟩ := h h1
    rw [h2, c1]
    refine Calls.mono c2 fun e w' he => ?_
    cases e with
    | returned v => exact he
    | panicked c => exact he.elim
    | outgrown => exact he.elim
  | need q => exact h.elim
  | fail n => exact h.elim

/-- An operation that is carried out just if a test comes out so. -/
theorem specR_sound {call : Calls1} (hc : CallOk P ρ call) (hq : Calm P call) {n : Nat} {t : T V} (hr : Rep ρ st w) (hp : st.pc.holds ρ) {f : E} (hf : f.ok ρ) {e : Operand → Value}
    (hrd : ∀ p : PC, p.holds ρ → Reads ρ e (rdS n t p)) (o : Oper) {v : V} (h : specR P call n t st o.op f = some v) :
    v.ok ρ ∧ (f.den ρ = 0 → v.den ρ = undef) ∧ (f.den ρ ≠ 0 → ∀ (a : Act) (K : Act → World → Prop) (Q : Exit → Act → World → Prop), (∀ w', Rep ρ st w' → K (a.put o.dst (v.den ρ)) w') →
      o.upon P a K Q ((execOp e o).run P w)) := by
  unfold specR at h
  cases h1 : putF f st.pc true with
  | none =>
    simp only [h1, Option.some.injEq] at h
    subst h
    refine ⟨ok_un ρ, fun _ => den_un ρ, fun h0 => ?_⟩
    obtain ⟨p, h2, _⟩ := putF_true hp hf h0
    rw [h1] at h2; cases h2
  | some p =>
    simp only [h1] at h
    have hpp : f.den ρ ≠ 0 → p.holds ρ := fun h0 => by
      obtain ⟨p', h2, h3⟩ := putF_true hp hf h0
      rw [h1] at h2
      simp only [Option.some.injEq] at h2
      subst h2; exact h3
    -- what is yielded under the test
    have opt : ∀ u : V, v = .opt f u → (f.den ρ ≠ 0 → u.ok ρ) → (f.den ρ ≠ 0 → ∀ (a : Act) (K : Act → World → Prop) (Q : Exit → Act → World → Prop), (∀ w', Rep ρ st w' → K (a.put o.dst (u.den ρ)) w') →
        o.upon P a K Q ((execOp e o).run P w)) → v.ok ρ ∧ (f.den ρ = 0 → v.den ρ = undef) ∧ (f.den ρ ≠ 0 → ∀ (a : Act) (K : Act → World → Prop) (Q : Exit → Act → World → Prop), (∀ w', Rep ρ st w' → K (a.put o.dst (v.den ρ)) w') →
        o.upon P a K Q ((execOp e o).run P w)) := by
      intro u hv hu hK
      subst hv
      refine ⟨by simp only [V.ok]; exact ⟨hf, hu⟩, fun h0 => by simp only [V.den, h0, if_true], fun h0 a K Q hk => hK h0 a K Q fun w' hr' => ?_⟩
      have := hk w' hr'
      simpa only [V.den, h0, if_false] using this
    cases hop : opR P (rdS n t p) (st.know p) o.op with
    | val u =>
      simp only [hop, Option.some.injEq] at h
      refine opt u h.symm (fun h0 => ?_) (fun h0 a K Q hk => ?_)
      · have hl := opR_sound (hr.know p) (hpp h0) (P := P) (hrd p (hpp h0)) o
        rw [hop] at hl; exact hl.2
      · have hl := opR_sound (hr.know p) (hpp h0) (P := P) (hrd p (hpp h0)) o
        rw [hop] at hl
        exact upon_of_lands (a := a) (K := K) (Q := Q) hl fun _ => hk w hr
    | call g args =>
      simp only [hop] at h
      cases hpf : pureF P g
      · simp [hpf] at h
      · simp only [hpf, ift_true] at h
        cases hcl : call g args (st.know p) with
        | bad c => simp [hcl] at h
        | ok r =>
          rw [hcl] at h
          match r, h, hcl with
          | [], h, _ => simp at h
          | x :: y :: l, h, _ => simp at h
          | [q], h, hcl =>
            simp only [Option.some.injEq] at h
            have back : ∀ w', Rep ρ q.2 w' → Rep ρ st w' := by
              intro w' hr'
              obtain ⟨pc, he⟩ := hq g hpf args _ _ hcl q (by simp)
              rw [he] at hr'
              exact (hr'.unknow).unknow
            refine opt q.1 h.symm (fun h0 => ?_) (fun h0 a K Q hk => ?_)
            · have hl := opR_sound (hr.know p) (hpp h0) (P := P) (hrd p (hpp h0)) o
              rw [hop] at hl
              obtain ⟨c1, c2⟩ := hc g args _ w _ (hr.know p) (hpp h0) hl.1 hcl
              obtain ⟨en, w', _, hR, _⟩ := c2 (fun _ _ => q.1.ok ρ) (fun z hz w' _ _ h3 => by
                simp only [List.mem_singleton] at hz
                subst hz
                exact h3) []
              cases en with
              | returned v => exact hR
              | panicked c => exact hR.elim
              | outgrown => exact hR.elim
            · have hl := opR_sound (hr.know p) (hpp h0) (P := P) (hrd p (hpp h0)) o
              rw [hop] at hl
              refine upon_of_lands (a := a) (K := K) (Q := Q) (ρ := ρ) (st := st.know p) (q := .call g args) hl fun hargs => ?_
              obtain ⟨c1, c2⟩ := hc g args _ w _ (hr.know p) (hpp h0) hargs hcl
              refine ⟨c1, c2 _ fun z hz w' hr' _ _ => ?_⟩
              simp only [List.mem_singleton] at hz
              subst hz
              exact hk w' (back w' hr')
    | _ => simp [hop] at h

theorem runOps_sound {call : Calls1} (hc : CallOk P ρ call) (hcm : Calm P call) {n : Nat} {all : List Oper} {Q : Exit → Act → World → Prop} : ∀ (k : Nat) (l : List Oper) (t : T V) (st : St) (a : Act) (w : World) (r : List (T V × St)),
    Fr ρ n t a → Rep ρ st w → st.pc.holds ρ → runOps P call n all k l t st = .ok r →
    (∀ p ∈ r, ∀ a' w', Fr ρ n p.1 a' → Rep ρ p.2 w' → p.2.pc.holds ρ → Q .normal a' w') → wpList P all.toArray Q l a w
  | 0, _, _, _, _, _, _, _, _, _, h, _ => by simp [runOps] at h
  | k + 1, [], t, st, a, w, r, hf, hr, hp, h, hQ => by
    simp only [runOps, Res.ok.injEq] at h
    subst h
    exact hQ (t, st) (by simp) a w hf hr hp
  | k + 1, o :: rest, t, st, a, w, r, hf, hr, hp, h, hQ => by
    simp only [runOps] at h
    have hw := hf.wants (ops := all) hp o
    have ih := runOps_sound hc hcm (n := n) (all := all) (Q := Q) k
    cases hwv : wants all n t st.pc o.guard with
    | bad => simp [hwv] at h
    | ask e =>
      rw [hwv] at h hw
      obtain ⟨he, hwe⟩ := hw
      dsimp only at h
      cases hsp : specR P call n t st o.op e with
      | none =>
        simp only [hsp] at h
        obtain ⟨p, l', h1, h2, h3⟩ := forkOn_spec hp he h
        exact ih (o :: rest) t (st.know p) a w l' hf (hr.know p) h1 h2 fun p hp => hQ p (h3 p hp)
      | some v =>
        simp only [hsp] at h
        obtain ⟨s1, s2, s3⟩ := specR_sound hc hcm hr hp he (fun p hp => hf.readsS hp) o hsp
        unfold wpList
        by_cases h0 : e.den ρ = 0
        · rw [if_neg (by rw [hwe]; simp [h0])]
          have := hf.put o.dst s1
          rw [s2 h0] at this
          exact ih rest _ st _ w r this hr hp h hQ
        · rw [if_pos (by rw [hwe]; simp [h0])]
          left
          unfold Oper.wp
          exact s3 h0 a _ Q fun w' hr' => ih rest _ st _ w' r (hf.put o.dst s1) hr' hp h hQ
    | no =>
      rw [hwv] at h hw
      unfold wpList
      rw [if_neg (by rw [hw]; simp)]
      have := hf.put o.dst (v := .un) (ok_un ρ)
      rw [den_un] at this
      exact ih rest _ st _ w r this hr hp h hQ
    | yes =>
      rw [hwv] at h hw
      have need : ∀ q : E, q.ok ρ → forkOn st q (runOps P call n all k (o :: rest) t) = .ok r → wpList P all.toArray Q (o :: rest) a w := by
        intro q hq h
        obtain ⟨p, l', h1, h2, h3⟩ := forkOn_spec hp hq h
        exact ih (o :: rest) t (st.know p) a w l' hf (hr.know p) h1 h2 fun p hp => hQ p (h3 p hp)
      have hl := opR_sound hr hp (P := P) (hf.readsS hp) o
      dsimp only at h
      by_cases hneed : ∃ q, opR P (rdS n t st.pc) st o.op = .need q
      · obtain ⟨q, hq⟩ := hneed
        rw [hq] at h hl
        exact need q hl h
      · unfold wpList
        rw [if_pos hw]
        left
        unfold Oper.wp
        refine upon_of_lands hl ?_
        clear hl
        cases hop : opR P (rdS n t st.pc) st o.op with
        | val v => rw [hop] at h; exact fun hv => ih rest _ st _ w r (hf.put o.dst hv) hr hp h hQ
        | new v b => rw [hop] at h; exact fun w' hv hr' => ih rest _ _ _ w' r (hf.put o.dst hv) hr' hp h hQ
        | newD v b => rw [hop] at h; exact fun w' hv hr' => ih rest _ _ _ w' r (hf.put o.dst hv) hr' hp h hQ
        | upd v b x =>
          rw [hop] at h
          refine fun w' hv hr' => ih rest _ _ _ w' r (hf.put o.dst hv) hr' ?_ h hQ
          cases b <;> exact hp
        | need q => exact absurd ⟨q, hop⟩ hneed
        | fail c => rw [hop] at h; simp at h
        | call f args =>
          rw [hop] at h
          intro hargs
          dsimp only at h
          cases hcl : call f args st with
          | bad c => simp [hcl] at h
          | ok rs =>
            rw [hcl] at h
            obtain ⟨c1, c2⟩ := hc f args st w rs hr hp hargs hcl
            refine ⟨c1, c2 _ fun p hpm w' hr' hp' hv => ?_⟩
            obtain ⟨r', e1, e2⟩ := flat_spec h p hpm
            exact ih rest _ _ _ w' r' (hf.put o.dst hv) hr' hp' e1 fun p hp => hQ p (e2 p hp)

end
end Go.Proofs.YtmacjmofhaghbaaDoor.Sy
end

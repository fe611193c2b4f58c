/-
  A symbolic evaluator for the model's code: a region that draws its order comes to the same in any.
-/
import Derived.Test.YtfnaglidblldiaaSyP
namespace Go.Proofs.Ytfnaglidblldiaa.Sy
open Go

def Ent.val (e : Ent) : V := match e.deed with
  | .none v => v
  | .look v => v
  | .heap v _ => v
def Ent.next (e : Ent) : St := match e.deed with
  | .heap _ s => s
  | _ => e.st
def Ent.nextT (n : Nat) (e : Ent) : T V := putT n e.t e.o.dst e.val

/-- A turn of the heap: what it told, the state behind it. -/
def Turn (P : Program) (call : Calls1) (n : Nat) (e : Ent) (v : V) (st' : St) : Prop :=
  (opR P (rdT n e.t) e.st e.o.op = .val v ∧ st' = e.st) ∨ (∃ b, opR P (rdT n e.t) e.st e.o.op = .new v b ∧ st' = e.st.alloc b) ∨
  (∃ b, opR P (rdT n e.t) e.st e.o.op = .newD v b ∧ st' = e.st.allocD b) ∨ (∃ b x, opR P (rdT n e.t) e.st e.o.op = .upd v b x ∧ st' = e.st.upd b x) ∨
  (∃ f args p, opR P (rdT n e.t) e.st e.o.op = .call f args ∧ call f args e.st = .ok [p] ∧ v = p.1 ∧ st' = p.2.know e.st.pc)

def Ent.good (P : Program) (call : Calls1) (n : Nat) (all : List Oper) (e : Ent) : Prop :=
  match e.deed with
  | .none v => (wants all n e.t e.st.pc e.o.guard = .no ∧ v = .un) ∨
      (wants all n e.t e.st.pc e.o.guard = .yes ∧ heapOp e.o.op = false ∧ readOp e.o.op = false ∧ opR P (rdT n e.t) e.st e.o.op = .val v)
  | .look v => wants all n e.t e.st.pc e.o.guard = .yes ∧ heapOp e.o.op = false ∧ opR P (rdT n e.t) e.st e.o.op = .val v
  | .heap v st' => wants all n e.t e.st.pc e.o.guard = .yes ∧ heapOp e.o.op = true ∧ Turn P call n e v st'

def Linked (n : Nat) : T V → St → List Ent → T V → St → Prop
  | t, st, [], t', st' => t = t' ∧ st = st'
  | t, st, e :: es, t', st' => e.t = t ∧ e.st = st ∧ Linked n (e.nextT n) e.next es t' st'

/-- A run in the order of the text, entry by entry. -/
def Trace (P : Program) (ρ : Env) (call : Calls1) (n : Nat) (all : List Oper) (m : T Nat) (t' : T V) (st' : St) (l : List Oper) (i : Nat) (t : T V) (st : St) (L : List (Nat × Ent)) : Prop :=
  ∃ es : List Ent, es.length = l.length ∧
    (∀ (k : Nat) (e : Ent), es[k]? = some e → l[k]? = some e.o ∧ e.good P call n all ∧ e.st.pc = st.pc ∧ (∀ d, (e.t.get .un d).ok ρ) ∧ e.val.ok ρ) ∧ Linked n t st es t' st' ∧
    (∀ (k : Nat) (e : Ent), es[k]? = some e → ∀ q ∈ L, pairOk P n m q (i + k, e) = true) ∧
    (∀ (k k' : Nat) (e e' : Ent), k < k' → es[k]? = some e → es[k']? = some e' → pairOk P n m (i + k, e) (i + k', e') = true)

section
variable {P : Program} {ρ : Env}

theorem Turn.ok {call : Calls1} (hc : CallOk P ρ call) {n : Nat} {e : Ent} {v : V} {st' : St} (h : Turn P call n e v st') {w : World} (hr : Rep ρ e.st w) (hp : e.st.pc.holds ρ)
    {f : Operand → Value} (hrd : Reads ρ f (rdT n e.t)) : v.ok ρ ∧ st'.pc = e.st.pc ∧ ∃ w', Rep ρ st' w' := by
  have hl := opR_sound hr hp (P := P) hrd e.o
  rcases h with ⟨h, rfl⟩ | ⟨b, h, rfl⟩ | ⟨b, h, rfl⟩ | ⟨b, x, h, rfl⟩ | ⟨g, args, p, h, hg, rfl, rfl⟩
  · rw [h] at hl; exact ⟨hl.2, rfl, w, hr⟩
  · rw [h] at hl; obtain ⟨w', _, h2, h3⟩ := hl; exact ⟨h2, rfl, w', h3⟩
  · rw [h] at hl; obtain ⟨w', _, h2, h3⟩ := hl; exact ⟨h2, rfl, w', h3⟩
  · rw [h] at hl; obtain ⟨w', _, h2, h3⟩ := hl; exact ⟨h2, by cases b <;> rfl, w', h3⟩
  · rw [h] at hl
    obtain ⟨c1, c2⟩ := hc g args e.st w _ hr hp hl.1 hg
    obtain ⟨en, w', _, hR, _⟩ := c2 (fun v w' => Rep ρ p.2 w' ∧ p.1.ok ρ) (fun q hq w' h1 _ h3 => by
      simp only [List.mem_singleton] at hq
      subst hq
      exact ⟨h1, h3⟩) []
    cases en with
    | returned v => exact ⟨hR.2, rfl, w', hR.1.know _⟩
    | panicked c => exact hR.elim
    | outgrown => exact hR.elim

theorem oks_put {n : Nat} {t : T V} (ht : ∀ d, (t.get .un d).ok ρ) (dst : Option Tmp) {v : V} (hv : v.ok ρ) : ∀ d, ((putT n t dst v).get .un d).ok ρ := by
  intro d
  cases dst with
  | none => exact ht d
  | some d' =>
    unfold putT
    dsimp only
    cases Nat.blt d' n
    · exact ht d
    · simp only [cond_true]
      by_cases h : d' = d
      · subst h
        rcases T.get_set_or .un v t d' with e | e <;> rw [e]
        · exact hv
        · exact ok_un ρ
      · rw [T.get_set_ne _ _ _ _ _ h]; exact ht d

/-- All that is read is in order; so they read. -/
theorem reads_of_oks {n : Nat} {t : T V} (ht : ∀ d, (t.get .un d).ok ρ) : Reads ρ (fun x => (rdT n t x).den ρ) (rdT n t) := by
  intro x
  refine ⟨rfl, ?_⟩
  cases x with
  | tmp d =>
    unfold rdT
    dsimp only
    cases Nat.blt d n
    · exact ok_un ρ
    · exact ht d
  | const v => exact (den_ofValue ρ v).2
  | global g => simp [rdT, V.ok]
  | func f => simp [rdT, V.ok, V.oks]

theorem runOne_spec {call : Calls1} (hc : CallOk P ρ call) {n : Nat} {all : List Oper} {m : T Nat} {t' : T V} {st' : St} : ∀ (l : List Oper) (i : Nat) (t : T V) (st : St) (L : List (Nat × Ent)),
    (∃ w, Rep ρ st w) → st.pc.holds ρ → (∀ d, (t.get .un d).ok ρ) → runOne P call n all m l i t st L = .done t' st' →
    Trace P ρ call n all m t' st' l i t st L
  | [], i, t, st, L, _, _, _, h => by
    simp only [runOne, D.done.injEq] at h
    exact ⟨[], rfl, by simp, h, by simp, by simp⟩
  | o :: rest, i, t, st, L, hr, hp, ht, h => by
    -- an entry, and what comes behind it
    have glue : ∀ (e : Ent) (L' : List (Nat × Ent)), e.t = t → e.st = st → e.o = o → e.good P call n all → e.val.ok ρ → (∃ w, Rep ρ e.next w) → e.next.pc = st.pc →
        ((L' = L ∧ ∀ q p, pairOk P n m q (p, e) = true ∧ pairOk P n m (p, e) q = true) ∨ (L' = (i, e) :: L ∧ allB (fun q => pairOk P n m q (i, e)) L = true)) →
        runOne P call n all m rest (i + 1) (putT n t o.dst e.val) e.next L' = .done t' st' →
        Trace P ρ call n all m t' st' (o :: rest) i t st L := by
      intro e L' et es' eo hg hv hr' hpc hL h
      obtain ⟨es, s1, s2, s3, s4, s5⟩ := runOne_spec hc rest (i + 1) _ _ L' hr' (by rw [hpc]; exact hp) (oks_put ht o.dst hv) h
      refine ⟨e :: es, by simp [s1], fun k x hx => ?_, ⟨et, es', ?_⟩, fun k x hx q hq => ?_, fun k k' x y hk hx hy => ?_⟩
      · cases k with
        | zero =>
          simp only [List.getElem?_cons_zero, Option.some.injEq] at hx
          subst hx
          exact ⟨by simp [eo], hg, by rw [es'], by rw [et]; exact ht, hv⟩
        | succ k =>
          have := s2 k x (by simpa using hx)
          rw [hpc] at this
          simpa using this
      · have : e.nextT n = putT n t o.dst e.val := by simp only [Ent.nextT, et, eo]
        rw [this]; exact s3
      · cases k with
        | zero =>
          simp only [List.getElem?_cons_zero, Option.some.injEq] at hx
          subst hx
          rcases hL with ⟨_, hL⟩ | ⟨_, hL⟩
          · exact (hL q _).1
          · exact allB_spec hL q hq
        | succ k =>
          have := s4 k x (by simpa using hx) q (by rcases hL with ⟨rfl, _⟩ | ⟨rfl, _⟩ <;> simp [hq])
          have e1 : i + (k + 1) = i + 1 + k := by omega
          rw [e1]; exact this
      · cases k' with
        | zero => omega
        | succ k' =>
          have e1 : i + (k' + 1) = i + 1 + k' := by omega
          rw [e1]
          cases k with
          | zero =>
            simp only [List.getElem?_cons_zero, Option.some.injEq] at hx
            subst hx
            rcases hL with ⟨_, hL⟩ | ⟨rfl, _⟩
            · exact (hL _ _).2
            · exact s4 k' y (by simpa using hy) _ (List.mem_cons_self ..)
          | succ k =>
            have e2 : i + (k + 1) = i + 1 + k := by omega
            rw [e2]
            exact s5 k k' x y (by omega) (by simpa using hx) (by simpa using hy)
    obtain ⟨w, hw⟩ := hr
    unfold runOne at h
    cases hwv : wants all n t st.pc o.guard with
    | bad => simp [hwv] at h
    | ask e => simp [hwv] at h
    | no =>
      simp only [hwv] at h
      exact glue ⟨t, st, o, .none .un⟩ L rfl rfl rfl (.inl ⟨hwv, rfl⟩) (ok_un ρ) ⟨w, hw⟩ rfl (.inl ⟨rfl, fun q p => ⟨by unfold pairOk; cases q.2.deed <;> rfl, rfl⟩⟩) h
    | yes =>
      simp only [hwv] at h
      cases hh : heapOp o.op
      · simp only [hh, cond_false] at h
        cases hop : opR P (rdT n t) st o.op with
        | val v =>
          simp only [hop] at h
          have hl := opR_sound hw hp (P := P) (reads_of_oks (n := n) ht) o
          rw [hop] at hl
          cases hro : readOp o.op
          · simp only [hro, cond_false] at h
            exact glue ⟨t, st, o, .none v⟩ L rfl rfl rfl (.inr ⟨hwv, hh, hro, hop⟩) hl.2 ⟨w, hw⟩ rfl (.inl ⟨rfl, fun q p => ⟨by unfold pairOk; cases q.2.deed <;> rfl, rfl⟩⟩) h
          · simp only [hro, cond_true] at h
            cases hall : allB (fun q => pairOk P n m q (i, ⟨t, st, o, .look v⟩)) L
            · simp [hall] at h
            · simp only [hall, cond_true] at h
              exact glue ⟨t, st, o, .look v⟩ _ rfl rfl rfl ⟨hwv, hh, hop⟩ hl.2 ⟨w, hw⟩ rfl (.inr ⟨rfl, hall⟩) h
        | new v b => simp [hop] at h
        | newD v b => simp [hop] at h
        | upd v b x => simp [hop] at h
        | need q => simp [hop] at h
        | call f args => simp [hop] at h
        | fail c => simp [hop] at h
      · simp only [hh, cond_true] at h
        have step : ∀ (v : V) (s : St), Turn P call n ⟨t, st, o, .heap v s⟩ v s →
            (bif allB (fun q => pairOk P n m q (i, ⟨t, st, o, .heap v s⟩)) L then runOne P call n all m rest (i + 1) (putT n t o.dst v) s ((i, ⟨t, st, o, .heap v s⟩) :: L)
              else .fail [rest.length, 907]) = .done t' st' →
            Trace P ρ call n all m t' st' (o :: rest) i t st L := by
          intro v s htn h
          obtain ⟨k1, k2, k3⟩ := htn.ok hc (w := w) hw hp (reads_of_oks (n := n) ht)
          cases hall : allB (fun q => pairOk P n m q (i, ⟨t, st, o, .heap v s⟩)) L
          · simp [hall] at h
          · simp only [hall, cond_true] at h
            exact glue ⟨t, st, o, .heap v s⟩ _ rfl rfl rfl ⟨hwv, hh, htn⟩ k1 k3 k2 (.inr ⟨rfl, hall⟩) h
        cases hop : opR P (rdT n t) st o.op with
        | val v => simp only [hop] at h; exact step v st (.inl ⟨hop, rfl⟩) h
        | new v b => simp only [hop] at h; exact step v _ (.inr (.inl ⟨b, hop, rfl⟩)) h
        | newD v b => simp only [hop] at h; exact step v _ (.inr (.inr (.inl ⟨b, hop, rfl⟩))) h
        | upd v b x => simp only [hop] at h; exact step v _ (.inr (.inr (.inr (.inl ⟨b, x, hop, rfl⟩)))) h
        | need q => simp [hop] at h
        | fail c => simp [hop] at h
        | call f args =>
          simp only [hop] at h
          cases hcl : call f args st with
          | bad c => simp [hcl] at h
          | ok l =>
            rw [hcl] at h
            match l, h with
            | [], h => simp at h
            | [p], h =>
              dsimp only at h
              cases ho : oldest st p.2 with
              | some q => simp [ho] at h
              | none =>
                simp only [ho] at h
                exact step p.1 _ (.inr (.inr (.inr (.inr ⟨f, args, p, hop, hcl, rfl, rfl⟩)))) h
            | p :: q :: l, h =>
              dsimp only at h
              cases ho : oldest st p.2 with
              | none => simp [ho] at h
              | some q' =>
                simp only [ho] at h
                cases hall : allB (fun y => oldestIs st y.2 q') (q :: l) <;> simp [hall] at h

end
end Go.Proofs.Ytfnaglidblldiaa.Sy

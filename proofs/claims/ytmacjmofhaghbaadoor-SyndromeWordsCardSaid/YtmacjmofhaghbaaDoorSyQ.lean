/-
  A symbolic evaluator for the model's code: a region that draws its order comes to the same in any.
-/
import Derived.Test.YtmacjmofhaghbaaDoorSyP
noncomputable section
namespace Go.Proofs.YtmacjmofhaghbaaDoor.Sy
open Go

def Ent.val (e : Ent) : V := match e.deed with
  | .none v => v
  | .look v => v
  | .heap v _ => v
def Ent.next (e : Ent) : St := match e.deed with
  | .heap _ s => s
  | _ => e.st
def Ent.nextT (n : Nat) (e : Ent) : T V := putT n e.t e.o.dst e.val

/-- A turn of the heap: what it told, the state behind it. -/
def Turn (P : Program) (call : Calls1) (n : Nat) (e : Ent) (v : V) (st' : St) : Prop :=
  (opR P (rdS n e.t e.st.pc) e.st e.o.op = .val v ∧ st' = e.st) ∨ (∃ b, opR P (rdS n e.t e.st.pc) e.st e.o.op = .new v b ∧ st' = e.st.alloc b) ∨
  (∃ b, opR P (rdS n e.t e.st.pc) e.st e.o.op = .newD v b ∧ st' = e.st.allocD b) ∨ (∃ b x, opR P (rdS n e.t e.st.pc) e.st e.o.op = .upd v b x ∧ st' = e.st.upd b x) ∨
  (∃ f args p, opR P (rdS n e.t e.st.pc) e.st e.o.op = .call f args ∧ call f args e.st = .ok [p] ∧ v = p.1 ∧ st' = p.2.know e.st.pc)

def Ent.good (P : Program) (call : Calls1) (n : Nat) (all : List Oper) (e : Ent) : Prop :=
  match e.deed with
  | .none v => (wants all n e.t e.st.pc e.o.guard = .no ∧ v = .un) ∨
      (wants all n e.t e.st.pc e.o.guard = .yes ∧ heapOp e.o.op = false ∧ readOp e.o.op = false ∧ opR P (rdS n e.t e.st.pc) e.st e.o.op = .val v) ∨
      (∃ f, wants all n e.t e.st.pc e.o.guard = .ask f ∧ heapOp e.o.op = false ∧ readOp e.o.op = false ∧ specR P call n e.t e.st e.o.op f = some v)
  | .look v => (wants all n e.t e.st.pc e.o.guard = .yes ∧ heapOp e.o.op = false ∧ opR P (rdS n e.t e.st.pc) e.st e.o.op = .val v) ∨
      (∃ f, wants all n e.t e.st.pc e.o.guard = .ask f ∧ heapOp e.o.op = false ∧ specR P call n e.t e.st e.o.op f = some v)
  | .heap v st' => (wants all n e.t e.st.pc e.o.guard = .yes ∧ heapOp e.o.op = true ∧ Turn P call n e v st') ∨
      (∃ f, wants all n e.t e.st.pc e.o.guard = .ask f ∧ heapOp e.o.op = true ∧ specR P call n e.t e.st e.o.op f = some v ∧ st' = e.st)

def Linked (n : Nat) : T V → St → List Ent → T V → St → Prop
  | t, st, [], t', st' => t = t' ∧ st = st'
  | t, st, e :: es, t', st' => e.t = t ∧ e.st = st ∧ Linked n (e.nextT n) e.next es t' st'

/-- A run in the order of the text, entry by entry. -/
def Trace (P : Program) (ρ : Env) (call : Calls1) (n : Nat) (all : List Oper) (m : T Nat) (t' : T V) (st' : St) (l : List Oper) (i : Nat) (t : T V) (st : St) (L : List (Nat × Ent)) : Prop :=
  ∃ es : List Ent, es.length = l.length ∧
    (∀ (k : Nat) (e : Ent), es[k]? = some e → l[k]? = some e.o ∧ e.good P call n all ∧ e.st.pc = st.pc ∧ (∀ d, (e.t.get .un d).ok ρ) ∧ e.val.ok ρ) ∧ Linked n t st es t' st' ∧
    (∀ (k : Nat) (e : Ent), es[k]? = some e → ∀ q ∈ L, pairOk P call n all m q (i + k, e) = true) ∧
    (∀ (k k' : Nat) (e e' : Ent), k < k' → es[k]? = some e → es[k']? = some e' → pairOk P call n all m (i + k, e) (i + k', e') = true)

section
variable {P : Program} {ρ : Env}

theorem Turn.ok {call : Calls1} (hc : CallOk P ρ call) {n : Nat} {e : Ent} {v : V} {st' : St} (h : Turn P call n e v st') {w : World} (hr : Rep ρ e.st w) (hp : e.st.pc.holds ρ)
    {f : Operand → Value} (hrd : Reads ρ f (rdS n e.t e.st.pc)) : v.ok ρ ∧ st'.pc = e.st.pc ∧ ∃ w', Rep ρ st' w' := by
  have hl := opR_sound hr hp (P := P) hrd e.o
  rcases h with ⟨h, rfl⟩ | ⟨b, h, rfl⟩ | ⟨b, h, rfl⟩ | ⟨b, x, h, rfl⟩ | ⟨g, args, p, h, hg, rfl, rfl⟩
  · rw [h] at hl; exact ⟨hl.2, rfl, w, hr⟩
  · rw [h] at hl; obtain ⟨w', _, h2, h3⟩ := hl; exact ⟨h2, rfl, w', h3⟩
  · rw [h] at hl; obtain ⟨w', _, h2, h3⟩ := hl; exact ⟨h2, rfl, w', h3⟩
  · rw [h] at hl; obtain ⟨w', _, h2, h3⟩ := hl; exact ⟨h2, by cases b <;> rfl, w', h3⟩
  · rw [h] at hl
    obtain ⟨c1, c2⟩ := hc g args e.st w _ hr hp hl.1 hg
    obtain ⟨en, w', _, hR, _⟩ := c2 (fun v w' => Rep ρ p.2 w' ∧ p.1.ok ρ) (fun q hq w' h1 _ h3 => by
      simp only [List.mem_singleton] at hq
      subst hq
      exact ⟨h1, h3⟩) []
    cases en with
    | returned v => exact ⟨hR.2, rfl, w', hR.1.know _⟩
    | panicked c => exact hR.elim
    | outgrown => exact hR.elim

theorem oks_put {n : Nat} {t : T V} (ht : ∀ d, (t.get .un d).ok ρ) (dst : Option Tmp) {v : V} (hv : v.ok ρ) : ∀ d, ((putT n t dst v).get .un d).ok ρ := by
  intro d
  cases dst with
  | none => exact ht d
  | some d' =>
    unfold putT
    dsimp only
    cases Nat.blt d' n
    · exact ht d
    · simp only [ift_true]
      by_cases h : d' = d
      · subst h
        rcases T.get_set_or .un v t d' with e | e <;> rw [e]
        · exact hv
        · exact ok_un ρ
      · rw [T.get_set_ne _ _ _ _ _ h]; exact ht d

/-- All that is read is in order; so they read. -/
theorem reads_of_oks {n : Nat} {t : T V} (ht : ∀ d, (t.get .un d).ok ρ) : Reads ρ (fun x => (rdT n t x).den ρ) (rdT n t) := by
  intro x
  refine ⟨rfl, ?_⟩
  cases x with
  | tmp d =>
    unfold rdT
    dsimp only
    cases Nat.blt d n
    · exact ok_un ρ
    · exact ht d
  | const v => exact (den_ofValue ρ v).2
  | global g => simp [rdT, V.ok]
  | func f => simp [rdT, V.ok, V.oks]

theorem readsS_of_oks {n : Nat} {t : T V} (ht : ∀ d, (t.get .un d).ok ρ) {pc : PC} (hp : pc.holds ρ) : Reads ρ (fun x => (rdT n t x).den ρ) (rdS n t pc) := by
  intro x
  obtain ⟨h1, h2⟩ := strip_spec hp _ (reads_of_oks (n := n) ht x).2
  exact ⟨h1.symm, h2⟩

theorem runOne_spec {call : Calls1} (hc : CallOk P ρ call) (hcm : Calm P call) {n : Nat} {all : List Oper} {m : T Nat} {t' : T V} {st' : St} : ∀ (l : List Oper) (i : Nat) (t : T V) (st : St) (L : List (Nat × Ent)),
    (∃ w, Rep ρ st w) → st.pc.holds ρ → (∀ d, (t.get .un d).ok ρ) → runOne P call n all m l i t st L = .done t' st' →
    Trace P ρ call n all m t' st' l i t st L
  | [], i, t, st, L, _, _, _, h => by
    simp only [runOne, D.done.injEq] at h
    exact ⟨[], rfl, by simp, h, by simp, by simp⟩
  | o :: rest, i, t, st, L, hr, hp, ht, h => by
    -- an entry, and what comes behind it
    have glue : ∀ (e : Ent) (L' : List (Nat × Ent)), e.t = t → e.st = st → e.o = o → e.good P call n all → e.val.ok ρ → (∃ w, Rep ρ e.next w) → e.next.pc = st.pc →
        ((L' = L ∧ ∀ q p, pairOk P call n all m q (p, e) = true ∧ pairOk P call n all m (p, e) q = true) ∨ (L' = (i, e) :: L ∧ allB (fun q => pairOk P call n all m q (i, e)) L = true)) →
        runOne P call n all m rest (i + 1) (putT n t o.dst e.val) e.next L' = .done t' st' →
        Trace P ρ call n all m t' st' (o :: rest) i t st L := by
      intro e L' et es' eo hg hv hr' hpc hL h
      obtain ⟨es, s1, s2, s3, s4, s5⟩ := runOne_spec hc hcm rest (i + 1) _ _ L' hr' (by rw [hpc]; exact hp) (oks_put ht o.dst hv) h
      refine ⟨e :: es, by simp [s1], fun k x hx => ?_, ⟨et, es', ?_⟩, fun k x hx q hq => ?_, fun k k' x y hk hx hy => ?_⟩
      · cases k with
        | zero =>
          simp only [List.getElem?_cons_zero, Option.some.injEq] at hx
          subst hx
          exact ⟨by simp [eo], hg, by rw [es'], by rw [et]; exact ht, hv⟩
        | succ k =>
          have := s2 k x (by simpa using hx)
          rw [hpc] at this
          simpa using this
      · have : e.nextT n = putT n t o.dst e.val := by simp only [Ent.nextT, et, eo]
        rw [this]; exact s3
      · cases k with
        | zero =>
          simp only [List.getElem?_cons_zero, Option.some.injEq] at hx
          subst hx
          rcases hL with ⟨_, hL⟩ | ⟨_, hL⟩
          · exact (hL q _).1
          · exact allB_spec hL q hq
        | succ k =>
          have := s4 k x (by simpa using hx) q (by rcases hL with ⟨rfl, _⟩ | ⟨rfl, _⟩ <;> simp [hq])
          have e1 : i + (k + 1) = i + 1 + k := by omega
          rw [e1]; exact this
      · cases k' with
        | zero => omega
        | succ k' =>
          have e1 : i + (k' + 1) = i + 1 + k' := by omega
          rw [e1]
          cases k with
          | zero =>
            simp only [List.getElem?_cons_zero, Option.some.injEq] at hx
            subst hx
            rcases hL with ⟨_, hL⟩ | ⟨rfl, _⟩
            · exact (hL _ _).2
            · exact s4 k' y (by simpa using hy) _ (List.mem_cons_self ..)
          | succ k =>
            have e2 : i + (k + 1) = i + 1 + k := by omega
            rw [e2]
            exact s5 k k' x y (by omega) (by simpa using hx) (by simpa using hy)
    obtain ⟨w, hw⟩ := hr
    have hreads := readsS_of_oks (n := n) ht hp
    have hws := wants_spec (ρ := ρ) (ops := all) (n := n) (t := t) (pc := st.pc) hp (o := o) (a := ⟨(Array.range n).map fun d => (t.get .un d).den ρ, []⟩)
      (fun j b g d _ _ _ hd => ⟨by simp [hd], ht d⟩)
    have skip : ∀ (v : V) (h1 : Ent.good P call n all ⟨t, st, o, .none v⟩), v.ok ρ → runOne P call n all m rest (i + 1) (putT n t o.dst v) st L = .done t' st' → Trace P ρ call n all m t' st' (o :: rest) i t st L :=
      fun v h1 hv h => glue ⟨t, st, o, .none v⟩ L rfl rfl rfl h1 hv ⟨w, hw⟩ rfl (.inl ⟨rfl, fun q p => ⟨by unfold pairOk; cases q.2.deed <;> rfl, rfl⟩⟩) h
    have still : ∀ (v : V), v.ok ρ → (readOp o.op = false → Ent.good P call n all ⟨t, st, o, .none v⟩) → Ent.good P call n all ⟨t, st, o, .look v⟩ →
        (ift (readOp o.op) (
          ift (allB (fun q => pairOk P call n all m q (i, ⟨t, st, o, .look v⟩)) L) (runOne P call n all m rest (i + 1) (putT n t o.dst v) st ((i, ⟨t, st, o, .look v⟩) :: L)
           ) <| .fail [rest.length, 908]
         ) <| runOne P call n all m rest (i + 1) (putT n t o.dst v) st L) = .done t' st' → Trace P ρ call n all m t' st' (o :: rest) i t st L := by
      intro v hv h1 h2 h
      cases hro : readOp o.op
      · simp only [hro, ift_false] at h
        exact skip v (h1 hro) hv h
      · simp only [hro, ift_true] at h
        cases hall : allB (fun q => pairOk P call n all m q (i, ⟨t, st, o, .look v⟩)) L
        · simp [hall] at h
        · simp only [hall, ift_true] at h
          exact glue ⟨t, st, o, .look v⟩ _ rfl rfl rfl h2 hv ⟨w, hw⟩ rfl (.inr ⟨rfl, hall⟩) h
    have turn : ∀ (v : V) (s : St), v.ok ρ → (∃ w', Rep ρ s w') → s.pc = st.pc → Ent.good P call n all ⟨t, st, o, .heap v s⟩ →
        (ift (allB (fun q => pairOk P call n all m q (i, ⟨t, st, o, .heap v s⟩)) L) (runOne P call n all m rest (i + 1) (putT n t o.dst v) s ((i, ⟨t, st, o, .heap v s⟩) :: L)
         ) <| .fail [rest.length, 907]) = .done t' st' →
        Trace P ρ call n all m t' st' (o :: rest) i t st L := by
      intro v s k1 k3 k2 hg h
      cases hall : allB (fun q => pairOk P call n all m q (i, ⟨t, st, o, .heap v s⟩)) L
      · simp [hall] at h
      · simp only [hall, ift_true] at h
        exact glue ⟨t, st, o, .heap v s⟩ _ rfl rfl rfl hg k1 k3 k2 (.inr ⟨rfl, hall⟩) h
    unfold runOne at h
    dsimp only at h
    cases hwv : wants all n t st.pc o.guard with
    | bad => simp [hwv] at h
    | ask e =>
      rw [hwv] at hws
      simp only [hwv] at h
      cases hsp : specR P call n t st o.op e with
      | none => simp [hsp] at h
      | some v =>
        simp only [hsp] at h
        obtain ⟨s1, _, _⟩ := specR_sound hc hcm hw hp hws.1 (fun p hp => readsS_of_oks (n := n) ht hp) o hsp
        cases hh : heapOp o.op
        · simp only [hh, ift_false] at h
          exact still v s1 (fun hro => .inr (.inr ⟨e, hwv, hh, hro, hsp⟩)) (.inr ⟨e, hwv, hh, hsp⟩) h
        · simp only [hh, ift_true] at h
          exact turn v st s1 ⟨w, hw⟩ rfl (.inr ⟨e, hwv, hh, hsp, rfl⟩) h
    | no =>
      simp only [hwv] at h
      exact skip .un (.inl ⟨hwv, rfl⟩) (ok_un ρ) h
    | yes =>
      simp only [hwv] at h
      cases hh : heapOp o.op
      · simp only [hh, ift_false] at h
        cases hop : opR P (rdS n t st.pc) st o.op with
        | val v =>
          simp only [hop] at h
          have hl := opR_sound hw hp (P := P) hreads o
          rw [hop] at hl
          exact still v hl.2 (fun hro => .inr (.inl ⟨hwv, hh, hro, hop⟩)) (.inl ⟨hwv, hh, hop⟩) h
        | new v b => simp [hop] at h
        | newD v b => simp [hop] at h
        | upd v b x => simp [hop] at h
        | need q => simp [hop] at h
        | call f args => simp [hop] at h
        | fail c => simp [hop] at h
      · simp only [hh, ift_true] at h
        have step : ∀ (v : V) (s : St), Turn P call n ⟨t, st, o, .heap v s⟩ v s →
            (ift (allB (fun q => pairOk P call n all m q (i, ⟨t, st, o, .heap v s⟩)) L) (runOne P call n all m rest (i + 1) (putT n t o.dst v) s ((i, ⟨t, st, o, .heap v s⟩) :: L)
             ) <| .fail [rest.length, 907]) = .done t' st' →
            Trace P ρ call n all m t' st' (o :: rest) i t st L := by
          intro v s htn h
          obtain ⟨k1, k2, k3⟩ := htn.ok hc (w := w) hw hp hreads
          exact turn v s k1 k3 k2 (.inl ⟨hwv, hh, htn⟩) h
        cases hop : opR P (rdS n t st.pc) st o.op with
        | val v => simp only [hop] at h; exact step v st (.inl ⟨hop, rfl⟩) h
        | new v b => simp only [hop] at h; exact step v _ (.inr (.inl ⟨b, hop, rfl⟩)) h
        | newD v b => simp only [hop] at h; exact step v _ (.inr (.inr (.inl ⟨b, hop, rfl⟩))) h
        | upd v b x => simp only [hop] at h; exact step v _ (.inr (.inr (.inr (.inl ⟨b, x, hop, rfl⟩)))) h
        | need q => simp [hop] at h
        | fail c => simp [hop] at h
        | call f args =>
          simp only [hop] at h
          cases hcl : call f args st with
          | bad c => simp [hcl] at h
          | ok l =>
            rw [hcl] at h
            match l, h, hcl with
            | [], h, _ => simp at h
            | [p], h, hcl =>
              dsimp only at h
              cases ho : Nat.beq p.2.pc.cnt st.pc.cnt
              · simp [ho] at h
              · simp only [ho, ift_true] at h
                exact step p.1 _ (.inr (.inr (.inr (.inr ⟨f, args, p, hop, hcl, rfl, rfl⟩)))) h
            | p :: q :: l, h, _ => simp at h

end
end Go.Proofs.YtmacjmofhaghbaaDoor.Sy
end

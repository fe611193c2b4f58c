/-
  A symbolic evaluator for the model's code: a region that draws its order comes to the same in any.
-/
import Derived.Test.YtmacjmofhaghbaaDoorSyQ
noncomputable section
namespace Go.Proofs.YtmacjmofhaghbaaDoor.Sy
open Go

def R.quiet : R → Bool
  | .val _ | .need _ | .fail _ => true
  | _ => false
theorem quiet_ift {b : Bool} {x y : R} (h1 : x.quiet = true) (h2 : y.quiet = true) : (ift b x y).quiet = true := by
  cases b with
  | false => exact h2
  | true => exact h1

theorem pickR_quiet (pc : PC) (e : E) (a b : V) : (pickR pc e a b).quiet = true := by
  unfold pickR
  repeat' first | rfl | apply quiet_ift | split
theorem loadR_quiet (P : Program) (st : St) (t : TypeId) (a : V) : (loadR P st t a).quiet = true := by
  unfold loadR
  dsimp only
  repeat' first | rfl | apply quiet_ift | split
theorem binR_quiet (P : Program) (st : St) (op : BinOp) (t : TypeId) (x y : V) : (binR P st op t x y).quiet = true := by
  unfold binR
  dsimp only
  repeat' first | rfl | apply quiet_ift | split
theorem unR_quiet (st : St) (op : UnOp) (x : V) : (unR st op x).quiet = true := by
  unfold unR
  repeat' first | rfl | apply quiet_ift | split
theorem convR_quiet (P : Program) (st : St) (s d : TypeId) (x : V) : (convR P st s d x).quiet = true := by
  unfold convR
  repeat' first | rfl | apply quiet_ift | split
theorem boundR_quiet (pc : PC) (m : E) (o : Option V) (d : E) {r : R} (h : boundR pc m o d = .inr r) : r.quiet = true := by
  unfold boundR at h
  repeat' split at h
  all_goals first | (cases h; done) | (cases h; rfl)
theorem sliceRow_quiet (pc : PC) (b : B) (o s : Nat) (len cap : E) (lo hi mx : Option V) : (sliceRow pc b o s len cap lo hi mx).quiet = true := by
  unfold sliceRow
  apply quiet_ift
  · rfl
  · split
    · rename_i h; exact boundR_quiet _ _ _ _ h
    · split
      · rename_i h; exact boundR_quiet _ _ _ _ h
      · split
        · rename_i h; exact boundR_quiet _ _ _ _ h
        · repeat' first | rfl | apply quiet_ift | split
theorem sliceS2_quiet (pc : PC) (es : List E) (lo hi : Option V) : (sliceS2 pc es lo hi).quiet = true := by
  unfold sliceS2
  split
  · rename_i h; exact boundR_quiet _ _ _ _ h
  · split
    · rename_i h; exact boundR_quiet _ _ _ _ h
    · repeat' first | rfl | split
theorem sliceS_quiet (pc : PC) (es : List E) (lo hi : Option V) : (sliceS pc es lo hi).quiet = true := by
  unfold sliceS
  dsimp only
  repeat' first | rfl | apply quiet_ift | apply sliceS2_quiet | split
theorem sliceR_quiet (P : Program) (st : St) (t : TypeId) (x : V) (lo hi mx : Option V) : (sliceR P st t x lo hi mx).quiet = true := by
  unfold sliceR
  repeat' first | rfl | apply sliceRow_quiet | apply sliceS_quiet | apply quiet_ift | split
theorem fieldAddrR_quiet (P : Program) (t : TypeId) (x : V) (f : Nat) : (fieldAddrR P t x f).quiet = true := by
  unfold fieldAddrR
  repeat' first | rfl | apply quiet_ift | split
theorem fieldR_quiet (P : Program) (t : TypeId) (x : V) (f : Nat) : (fieldR P t x f).quiet = true := by
  unfold fieldR
  repeat' first | rfl | apply quiet_ift | split
theorem indexAddrR_quiet (P : Program) (st : St) (t : TypeId) (x i : V) : (indexAddrR P st t x i).quiet = true := by
  unfold indexAddrR
  repeat' first | rfl | apply quiet_ift | split
theorem indexS_quiet (pc : PC) (es : List E) (i : E) : (indexS pc es i).quiet = true := by
  unfold indexS
  repeat' first | rfl | apply quiet_ift | split
theorem indexR_quiet (P : Program) (st : St) (t : TypeId) (x i : V) : (indexR P st t x i).quiet = true := by
  unfold indexR
  repeat' first | rfl | apply indexS_quiet | apply quiet_ift | split
theorem buildR_quiet (P : Program) (t : TypeId) (ps : List (Nat × V)) : (buildR P t ps).quiet = true := by
  unfold buildR
  repeat' first | rfl | apply quiet_ift | split

theorem outM_quiet (c : Bool) (v : V) (r : Bool) : (outM c v r).quiet = true := by cases c <;> rfl
theorem lookupR_quiet (P : Program) (st : St) (t : TypeId) (m key : V) (c : Bool) : (lookupR P st t m key c).quiet = true := by
  unfold lookupR
  repeat' first | rfl | apply outM_quiet | apply quiet_ift | split

/-- Operations that do not turn the heap yield a value, ask, or fail. -/
theorem opR_quiet {P : Program} {rd : Rd} {st : St} {op : Op} (h : heapOp op = false) : (opR P rd st op).quiet = true := by
  cases op <;> first
    | (simp only [heapOp, Bool.true_eq_false] at h; done)
    | rfl
    | apply buildR_quiet | apply loadR_quiet | apply binR_quiet | apply unR_quiet | apply convR_quiet | apply sliceR_quiet | apply fieldAddrR_quiet | apply fieldR_quiet
    | apply indexAddrR_quiet | apply indexR_quiet | apply lookupR_quiet
    | skip
  case pick c a b =>
    simp only [opR]
    repeat' first | rfl | apply pickR_quiet | split
  case nilCheck x =>
    simp only [opR]
    repeat' first | rfl | split
  case extract x i =>
    simp only [opR]
    repeat' first | rfl | split
  case call c =>
    simp only [opR, callR]
    cases hc : c.callee with
    | value f => simp [heapOp, hc] at h
    | invoke r m => rfl
    | builtin b =>
      dsimp only
      unfold builtinR
      cases b <;> first
        | (simp [heapOp, hc] at h; done)
        | (repeat' first | contradiction | rfl | apply quiet_ift | split)

theorem opR_call {P : Program} {rd : Rd} {st : St} {op : Op} (h : heapOp op = false) {f : FuncId} {args : List V} (hc : opR P rd st op = .call f args) : False := by
  have := opR_quiet (P := P) (rd := rd) (st := st) h
  rw [hc] at this
  cases this

/-- Operations that do not look at the heap, and do not turn it: what they come to hangs on what is known alone. -/
theorem opR_still {P : Program} {rd : Rd} {op : Op} (h1 : heapOp op = false) (h2 : readOp op = false) {st st' : St} (h : st.pc = st'.pc) : opR P rd st op = opR P rd st' op := by
  obtain ⟨nn, news, olds, dr, pc, gl⟩ := st
  obtain ⟨nn', news', olds', dr', pc', gl'⟩ := st'
  dsimp only at h
  subst h
  cases op <;> first | rfl | (simp only [heapOp, Bool.true_eq_false] at h1; done) | (simp only [readOp, Bool.true_eq_false] at h2; done) | skip
  case call c =>
    simp only [opR, callR]
    cases hc : c.callee with
    | value f => simp [heapOp, hc] at h1
    | invoke r m => rfl
    | builtin b =>
      have one : ∀ b, b = .cap ∨ b = .max ∨ b = .min → ∀ (ats : List TypeId) (args : List V), builtinR P ⟨nn, news, olds, dr, pc, gl⟩ b ats args = builtinR P ⟨nn', news', olds', dr', pc, gl'⟩ b ats args := by
        intro b hb ats args
        rcases hb with rfl | rfl | rfl
        · rcases ats with _ | ⟨t, ats⟩ <;> rcases args with _ | ⟨x, _ | ⟨y, args⟩⟩ <;> rfl
        · rcases ats with _ | ⟨t, ats⟩ <;> rcases args with _ | ⟨x, _ | ⟨y, _ | ⟨z, args⟩⟩⟩ <;> first | rfl | (cases x <;> first | rfl | (cases y <;> rfl))
        · rcases ats with _ | ⟨t, ats⟩ <;> rcases args with _ | ⟨x, _ | ⟨y, _ | ⟨z, args⟩⟩⟩ <;> first | rfl | (cases x <;> first | rfl | (cases y <;> rfl))
      cases b <;> first | exact one _ (.inl rfl) _ _ | exact one _ (.inr (.inl rfl)) _ _ | exact one _ (.inr (.inr rfl)) _ _ | (simp [heapOp, hc] at h1; done) | (simp [readOp, hc] at h2; done)

theorem specR_still {P : Program} {call : Calls1} {n : Nat} {t : T V} {op : Op} {f : E} (h1 : heapOp op = false) (h2 : readOp op = false) {st st' : St} (h : st.pc = st'.pc) {v : V} (hs : specR P call n t st op f = some v) :
    specR P call n t st' op f = some v := by
  unfold specR at hs ⊢
  rw [← h]
  cases hp : putF f st.pc true with
  | none => simp only [hp] at hs; exact hs
  | some p =>
    simp only [hp] at hs
    have e : opR P (rdS n t p) (st'.know p) op = opR P (rdS n t p) (st.know p) op := opR_still h1 h2 rfl
    dsimp only
    rw [e]
    cases hop : opR P (rdS n t p) (st.know p) op with
    | val u => simpa only [hop] using hs
    | call g args =>
      have hc := opR_call h1 hop
      exact hc.elim
    | _ => simp [hop] at hs

def stAt (es : List Ent) (st' : St) (k : Nat) : St := match es[k]? with | some e => e.st | none => st'
def tAt (es : List Ent) (t' : T V) (k : Nat) : T V := match es[k]? with | some e => e.t | none => t'

theorem linked_zero {n : Nat} {t' : T V} {st' : St} : ∀ {es : List Ent} {t : T V} {st : St}, Linked n t st es t' st' → stAt es st' 0 = st ∧ tAt es t' 0 = t
  | [], _, _, h => ⟨h.2.symm, h.1.symm⟩
  | _ :: _, _, _, h => ⟨h.2.1, h.1⟩
theorem linked_step {n : Nat} {t' : T V} {st' : St} : ∀ {es : List Ent} {t : T V} {st : St} {k : Nat} {e : Ent}, Linked n t st es t' st' → es[k]? = some e →
    stAt es st' (k + 1) = e.next ∧ tAt es t' (k + 1) = e.nextT n
  | [], _, _, _, _, _, hk => by simp at hk
  | e :: es, _, _, 0, x, h, hk => by
    simp only [List.getElem?_cons_zero, Option.some.injEq] at hk
    subst hk
    have := linked_zero h.2.2
    simpa [stAt, tAt] using this
  | e :: es, _, _, k + 1, x, h, hk => by
    have := linked_step h.2.2 (k := k) (by simpa using hk)
    simpa [stAt, tAt] using this

/-- What a temporary holds when S has been done, of the first k. -/
def lastW (t0 : T V) (es : List Ent) (S : Nat → Bool) (d : Nat) : Nat → V
  | 0 => t0.get .un d
  | k + 1 => match es[k]? with
    | some e => if S k = true ∧ e.o.dst = some d then e.val else lastW t0 es S d k
    | none => lastW t0 es S d k

section
variable {P : Program} {ρ : Env} {call : Calls1} {n : Nat} {ops : List Oper} {m : T Nat} {t0 t' : T V} {st0 st' : St} {es : List Ent}

/-- What is known of a region's run in the order of the text. -/
structure Ran (P : Program) (ρ : Env) (call : Calls1) (n : Nat) (ops : List Oper) (m : T Nat) (t0 t' : T V) (st0 st' : St) (es : List Ent) : Prop where
  told : Told ops n m
  len : es.length = ops.length
  ent : ∀ (k : Nat) (e : Ent), es[k]? = some e → ops[k]? = some e.o ∧ e.good P call n ops ∧ e.st.pc = st0.pc ∧ (∀ d, (e.t.get .un d).ok ρ) ∧ e.val.ok ρ
  link : Linked n t0 st0 es t' st'
  pair : ∀ (k k' : Nat) (e e' : Ent), k < k' → es[k]? = some e → es[k']? = some e' → pairOk P call n ops m (k, e) (k', e') = true
  full : ∃ k, T.Full k t0 ∧ n ≤ 2 ^ k - 1
  ok0 : ∀ d, (t0.get .un d).ok ρ

namespace Ran

theorem op_at (h : Ran P ρ call n ops m t0 t' st0 st' es) {k : Nat} {o : Oper} (ho : ops[k]? = some o) : ∃ e, es[k]? = some e ∧ e.o = o := by
  have hlt : k < es.length := by rw [h.len]; exact (List.getElem?_eq_some_iff.1 ho).1
  refine ⟨es[k], List.getElem?_eq_getElem hlt, ?_⟩
  have := (h.ent k _ (List.getElem?_eq_getElem hlt)).1
  rw [ho] at this
  exact (Option.some.inj this).symm

theorem tAt_full (h : Ran P ρ call n ops m t0 t' st0 st' es) : ∀ k, k ≤ es.length → ∃ j, T.Full j (tAt es t' k) ∧ n ≤ 2 ^ j - 1
  | 0, _ => by rw [(linked_zero h.link).2]; exact h.full
  | k + 1, hk => by
    obtain ⟨j, h1, h2⟩ := tAt_full h k (by omega)
    have hlt : k < es.length := by omega
    have he := List.getElem?_eq_getElem hlt
    rw [(linked_step h.link he).2]
    have et : tAt es t' k = es[k].t := by simp [tAt, he]
    rw [et] at h1
    refine ⟨j, ?_, h2⟩
    unfold Ent.nextT putT
    cases es[k].o.dst with
    | none => exact h1
    | some d =>
      dsimp only
      cases Nat.blt d n
      · exact h1
      · exact T.full_set h1 _ _

theorem tAt_get (h : Ran P ρ call n ops m t0 t' st0 st' es) {d : Nat} (hd : d < n) : ∀ k, k ≤ es.length → (tAt es t' k).get .un d = lastW t0 es (fun _ => true) d k
  | 0, _ => by rw [(linked_zero h.link).2]; rfl
  | k + 1, hk => by
    have ih := tAt_get h hd k (by omega)
    obtain ⟨j, h1, h2⟩ := h.tAt_full k (by omega)
    have hlt : k < es.length := by omega
    have he := List.getElem?_eq_getElem hlt
    rw [(linked_step h.link he).2]
    have et : tAt es t' k = es[k].t := by simp [tAt, he]
    rw [et] at h1 ih
    unfold lastW
    rw [he]
    simp only [true_and]
    unfold Ent.nextT putT
    cases hdst : es[k].o.dst with
    | none => simpa using ih
    | some d' =>
      dsimp only
      by_cases hdd : d' = d
      · subst hdd
        have hb : Nat.blt d' n = true := by simpa [Nat.blt_eq] using hd
        rw [hb]
        simp only [ift_true, if_true]
        exact T.get_set_eq _ _ h1 _ (Nat.lt_of_lt_of_le hd h2)
      · have : ¬ (some d' = some d) := by simpa using hdd
        rw [if_neg this]
        cases Nat.blt d' n
        · exact ih
        · simp only [ift_true]
          rw [T.get_set_ne _ _ _ _ _ hdd]; exact ih

theorem lastW_ok (h : Ran P ρ call n ops m t0 t' st0 st' es) (S : Nat → Bool) (d : Nat) : ∀ k, (lastW t0 es S d k).ok ρ
  | 0 => h.ok0 d
  | k + 1 => by
    unfold lastW
    cases he : es[k]? with
    | none => exact lastW_ok h S d k
    | some e =>
      dsimp only
      split
      · exact (h.ent k e he).2.2.2.2
      · exact lastW_ok h S d k

theorem stAt_pc (h : Ran P ρ call n ops m t0 t' st0 st' es) (hp : st'.pc = st0.pc) (k : Nat) : (stAt es st' k).pc = st0.pc := by
  unfold stAt
  cases he : es[k]? with
  | none => exact hp
  | some e => exact (h.ent k e he).2.2.1

theorem stAt_same (h : Ran P ρ call n ops m t0 t' st0 st' es) {k : Nat} (hk : ∀ e v s, es[k]? = some e → e.deed ≠ .heap v s) : stAt es st' (k + 1) = stAt es st' k := by
  cases he : es[k]? with
  | none =>
    have h1 : es[k + 1]? = none := by
      rw [List.getElem?_eq_none_iff] at he ⊢; omega
    simp only [stAt, he, h1]
  | some e =>
    rw [(linked_step h.link he).1]
    have e1 : stAt es st' k = e.st := by simp only [stAt, he]
    rw [e1]
    unfold Ent.next
    cases hd : e.deed with
    | none v => rfl
    | look v => rfl
    | heap v s => exact absurd hd (hk e v s he)

/-- From q on to i: the same, or a first turn of the heap. -/
theorem stAt_first (h : Ran P ρ call n ops m t0 t' st0 st' es) (i : Nat) : ∀ x q, i = q + x → stAt es st' q = stAt es st' i ∨ ∃ k e v s, q ≤ k ∧ k < i ∧ es[k]? = some e ∧ e.deed = .heap v s ∧ stAt es st' q = e.st
  | 0, q, hx => .inl (by rw [hx]; rfl)
  | x + 1, q, hx => by
    by_cases hq : ∃ e v s, es[q]? = some e ∧ e.deed = .heap v s
    · obtain ⟨e, v, s, h1, h2⟩ := hq
      exact .inr ⟨q, e, v, s, Nat.le_refl _, by omega, h1, h2, by simp only [stAt, h1]⟩
    · have e1 := h.stAt_same (k := q) fun e v s h1 h2 => hq ⟨e, v, s, h1, h2⟩
      rcases stAt_first h i x (q + 1) (by omega) with h1 | ⟨k, e, v, s, h1, h2, h3, h4, h5⟩
      · exact .inl (by rw [← e1]; exact h1)
      · exact .inr ⟨k, e, v, s, by omega, h2, h3, h4, by rw [← e1]; exact h5⟩

/-- From i on to q: the same, or a last turn of the heap. -/
theorem stAt_last (h : Ran P ρ call n ops m t0 t' st0 st' es) (i : Nat) : ∀ x q, q = i + x → stAt es st' q = stAt es st' i ∨ ∃ k e v s, i ≤ k ∧ k < q ∧ es[k]? = some e ∧ e.deed = .heap v s ∧ stAt es st' q = s
  | 0, q, hx => .inl (by rw [hx]; rfl)
  | x + 1, q, hx => by
    obtain rfl : q = (i + x) + 1 := by omega
    by_cases hq : ∃ e v s, es[i + x]? = some e ∧ e.deed = .heap v s
    · obtain ⟨e, v, s, h1, h2⟩ := hq
      refine .inr ⟨i + x, e, v, s, by omega, by omega, h1, h2, ?_⟩
      rw [(linked_step h.link h1).1]
      simp only [Ent.next, h2]
    · have e1 := h.stAt_same (k := i + x) fun e v s h1 h2 => hq ⟨e, v, s, h1, h2⟩
      rw [e1]
      rcases stAt_last h i x (i + x) rfl with h1 | ⟨k, e, v, s, h1, h2, h3, h4, h5⟩
      · exact .inl h1
      · exact .inr ⟨k, e, v, s, h1, by omega, h3, h4, h5⟩

end Ran

/-- When S has been done: the frame, the world. -/
structure Inv (ρ : Env) (n : Nat) (ops : List Oper) (t0 : T V) (st' : St) (es : List Ent) (S : Nat → Bool) (a : Act) (w : World) : Prop where
  closed : Closed ops (fun i => S i = true)
  defers : a.defers = []
  size : a.tmps.size = n
  val : ∀ d, d < n → a.tmps[d]? = some ((lastW t0 es S d es.length).den ρ)
  stage : ∃ q, (∀ (i : Nat) (e : Ent) (v : V) (s : St), es[i]? = some e → e.deed = .heap v s → (S i = true ↔ i < q)) ∧ Rep ρ (stAt es st' q) w

/-- S, and i besides. -/
def with1 (S : Nat → Bool) (i : Nat) : Nat → Bool := fun k => S k || k == i

theorem lastW_with1 {t0 : T V} {es : List Ent} {S : Nat → Bool} {i d : Nat} (hi : ∀ e, es[i]? = some e → e.o.dst ≠ some d) : ∀ k, lastW t0 es (with1 S i) d k = lastW t0 es S d k
  | 0 => rfl
  | k + 1 => by
    unfold lastW
    rw [lastW_with1 hi k]
    cases he : es[k]? with
    | none => rfl
    | some e =>
      dsimp only
      by_cases hki : k = i
      · subst hki
        have := hi e he
        simp [this]
      · simp [with1, hki]

/-- The place i may be done next. -/
structure Next (ops : List Oper) (S : Nat → Bool) (i : Nat) (o : Oper) : Prop where
  at_ : ops[i]? = some o
  not : S i = false
  edges : ∀ e ∈ o.after.toList, bindsB e = true → S e.on = true

namespace Next

theorem closed {S : Nat → Bool} {i : Nat} {o : Oper} (hn : Next ops S i o) (hS : Closed ops (fun i => S i = true)) : Closed ops (fun k => with1 S i k = true) := by
  intro k x hk hsk e he hb
  simp only [with1, Bool.or_eq_true, beq_iff_eq] at hsk ⊢
  rcases hsk with hsk | rfl
  · exact .inl (hS k x hk hsk e he hb)
  · have := hn.at_
    rw [hk] at this
    cases this
    exact .inl (hn.edges e he hb)

theorem ahead {S : Nat → Bool} {i : Nat} {o : Oper} (hn : Next ops S i o) (hS : Closed ops (fun i => S i = true)) {k : Nat} (h : Ahead ops k i) : S k = true := by
  have := h.2 _ (hn.closed hS) (by simp [with1])
  simp only [with1, Bool.or_eq_true, beq_iff_eq] at this
  rcases this with h1 | h1
  · exact h1
  · have := h.1; omega

theorem behind {S : Nat → Bool} {i : Nat} {o : Oper} (hn : Next ops S i o) (hS : Closed ops (fun i => S i = true)) {k : Nat} (h : Ahead ops i k) : S k = false := by
  cases hk : S k
  · rfl
  · have := h.2 _ hS hk
    rw [hn.not] at this
    cases this
end Next

end
end Go.Proofs.YtmacjmofhaghbaaDoor.Sy
end

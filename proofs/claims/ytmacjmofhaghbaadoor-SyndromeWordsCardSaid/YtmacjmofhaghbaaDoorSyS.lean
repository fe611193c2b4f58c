/-
  A symbolic evaluator for the model's code: a region that draws its order comes to the same in any.
-/
import Derived.Test.YtmacjmofhaghbaaDoorSyR
noncomputable section
namespace Go.Proofs.YtmacjmofhaghbaaDoor.Sy
open Go

section
variable {P : Program} {ρ : Env} {call : Calls1} {n : Nat} {ops : List Oper} {m : T Nat} {t0 t' : T V} {st0 st' : St} {es : List Ent}

theorem lastW_succ (t0 : T V) (es : List Ent) (S : Nat → Bool) (d k : Nat) : lastW t0 es S d (k + 1) = match es[k]? with
    | some e => if S k = true ∧ e.o.dst = some d then e.val else lastW t0 es S d k
    | none => lastW t0 es S d k := rfl

theorem tmpsOf_mem {d : Nat} : ∀ {l : List Operand}, Operand.tmp d ∈ l → d ∈ tmpsOf l
  | [], h => by cases h
  | x :: l, h => by
    rcases List.mem_cons.1 h with rfl | h
    · simp [tmpsOf]
    · have := tmpsOf_mem h
      cases x <;> simp [tmpsOf, this]

theorem names_operand {all : List Oper} {o : Oper} {d : Nat} (h : Operand.tmp d ∈ o.op.operands) : d ∈ namesOf all o := by
  have h1 := tmpsOf_mem (l := o.op.operands.toList) (by simpa using h)
  unfold namesOf
  dsimp only
  have h2 : d ∈ (match o.dst with | some d => d :: tmpsOf o.op.operands.toList | none => tmpsOf o.op.operands.toList) := by
    cases o.dst <;> simp [h1]
  cases o.guard with
  | none => exact h2
  | some p =>
    dsimp only
    cases all[p.1]? with
    | none => exact h2
    | some g =>
      dsimp only
      cases g.dst with
      | none => exact h2
      | some d' => exact List.mem_cons_of_mem _ h2

theorem names_dst {all : List Oper} {o : Oper} {d : Nat} (h : o.dst = some d) : d ∈ namesOf all o := by
  unfold namesOf
  dsimp only
  rw [h]
  cases o.guard with
  | none => simp
  | some p =>
    dsimp only
    cases all[p.1]? with
    | none => simp
    | some g =>
      dsimp only
      cases g.dst with
      | none => simp
      | some d' => simp

theorem names_guard {all : List Oper} {o g : Oper} {d j : Nat} {b : Bool} (h : o.guard = some (j, b)) (hg : all[j]? = some g) (hd : g.dst = some d) : d ∈ namesOf all o := by
  unfold namesOf
  simp [h, hg, hd]

namespace Ran

theorem sees (h : Ran P ρ call n ops m t0 t' st0 st' es) {S : Nat → Bool} {a : Act} {w : World} (inv : Inv ρ n ops t0 st' es S a w) {i : Nat} {o : Oper} (hn : Next ops S i o) {e : Ent} (he : es[i]? = some e) {d : Nat}
    (hd : d ∈ namesOf ops o) : d < n ∧ Sees ρ e.t a d := by
  obtain ⟨n1, n2⟩ := h.told.names i o hn.at_ d hd
  have cmp : ∀ (k : Nat) (x : Ent), es[k]? = some x → x.o.dst = some d → k ≠ i → (S k = true ↔ k < i) := by
    intro k x hk hx hki
    rcases n2 k x.o (h.ent k x hk).1 hx with h1 | h1 | h1
    · exact absurd h1 hki
    · exact ⟨fun _ => h1.1, fun _ => hn.ahead inv.closed h1⟩
    · have := hn.behind inv.closed h1
      have h2 := h1.1
      exact ⟨fun h3 => absurd (this.symm.trans h3) (by simp), fun h3 => by omega⟩
  have low : ∀ k, k ≤ i → lastW t0 es S d k = lastW t0 es (fun _ => true) d k := by
    intro k
    induction k with
    | zero => intro _; rfl
    | succ k ih =>
      intro hk
      rw [lastW_succ, lastW_succ, ih (by omega)]
      cases hek : es[k]? with
      | none => rfl
      | some x =>
        dsimp only
        by_cases hx : x.o.dst = some d
        · have := (cmp k x hek hx (by omega)).2 (by omega)
          simp [hx, this]
        · simp [hx]
  have high : ∀ x, lastW t0 es S d (i + x) = lastW t0 es S d i := by
    intro x
    induction x with
    | zero => rfl
    | succ x ih =>
      show lastW t0 es S d (i + x + 1) = _
      rw [lastW_succ, ih]
      cases hek : es[i + x]? with
      | none => rfl
      | some y =>
        dsimp only
        rw [if_neg]
        rintro ⟨h1, h2⟩
        by_cases hix : i + x = i
        · rw [hix, hn.not] at h1; cases h1
        · have := (cmp _ y hek h2 hix).1 h1
          omega
  have hlt : i < es.length := (List.getElem?_eq_some_iff.1 he).1
  have e1 := inv.val d n1
  obtain ⟨x, hx⟩ : ∃ x, es.length = i + x := ⟨es.length - i, by omega⟩
  rw [hx, high x, low i (Nat.le_refl _), ← h.tAt_get n1 i (by omega)] at e1
  have et : tAt es t' i = e.t := by simp [tAt, he]
  rw [et] at e1
  exact ⟨n1, e1, (h.ent i e he).2.2.2.1 d⟩

theorem put (h : Ran P ρ call n ops m t0 t' st0 st' es) {S : Nat → Bool} {a : Act} {w w' : World} (inv : Inv ρ n ops t0 st' es S a w) {i : Nat} {o : Oper} (hn : Next ops S i o) {e : Ent} (he : es[i]? = some e)
    (hst : ∃ q, (∀ (k : Nat) (e : Ent) (v : V) (s : St), es[k]? = some e → e.deed = .heap v s → (with1 S i k = true ↔ k < q)) ∧ Rep ρ (stAt es st' q) w') :
    Inv ρ n ops t0 st' es (with1 S i) (a.put o.dst (e.val.den ρ)) w' := by
  have heo : e.o = o := by
    have := (h.ent i e he).1
    rw [hn.at_] at this
    exact (Option.some.inj this).symm
  have hlt : i < es.length := (List.getElem?_eq_some_iff.1 he).1
  refine ⟨hn.closed inv.closed, ?_, ?_, fun d hd => ?_, hst⟩
  · cases o.dst <;> exact inv.defers
  · cases o.dst with
    | none => exact inv.size
    | some d => simp [Act.put, inv.size]
  · by_cases hdd : o.dst = some d
    · rw [hdd]
      simp only [Act.put]
      have : lastW t0 es (with1 S i) d es.length = e.val := by
        have n2 := (h.told.names i o hn.at_ d (names_dst hdd)).2
        have high : ∀ x, lastW t0 es (with1 S i) d (i + 1 + x) = e.val := by
          intro x
          induction x with
          | zero =>
            rw [lastW_succ, he]
            simp [with1, heo, hdd]
          | succ x ih =>
            show lastW t0 es (with1 S i) d (i + 1 + x + 1) = _
            rw [lastW_succ, ih]
            cases hek : es[i + 1 + x]? with
            | none => rfl
            | some y =>
              dsimp only
              rw [if_neg]
              rintro ⟨h1, h2⟩
              have hne : i + 1 + x ≠ i := by omega
              simp only [with1, Bool.or_eq_true, beq_iff_eq, hne, or_false] at h1
              rcases n2 _ y.o (h.ent _ y hek).1 h2 with h3 | h3 | h3
              · omega
              · have := h3.1; omega
              · rw [hn.behind inv.closed h3] at h1; cases h1
        obtain ⟨x, hx⟩ : ∃ x, es.length = i + 1 + x := ⟨es.length - (i + 1), by omega⟩
        rw [hx]; exact high x
      rw [this]
      have hda : d < a.tmps.size := by rw [inv.size]; exact hd
      simp [hda]
    · rw [lastW_with1 (fun x hx => by rw [he] at hx; cases hx; rw [heo]; exact hdd)]
      rw [← inv.val d hd]
      cases hod : o.dst with
      | none => rfl
      | some d' =>
        have : d' ≠ d := fun e => hdd (by rw [hod, e])
        simp only [Act.put]
        exact Array.getElem?_setIfInBounds_ne this

theorem step (h : Ran P ρ call n ops m t0 t' st0 st' es) (hc : CallOk P ρ call) (hcm : Calm P call) (hp : st0.pc.holds ρ) (hst : st'.pc = st0.pc) {S : Nat → Bool} {a : Act} {w : World} (inv : Inv ρ n ops t0 st' es S a w) {i : Nat} {o : Oper} (hn : Next ops S i o)
    {Q : Exit → Act → World → Prop} {K : Act → World → Prop} (hK : ∀ a' w', Inv ρ n ops t0 st' es (with1 S i) a' w' → K a' w') : wpOp P ops.toArray Q i K a w := by
  obtain ⟨e, he, heo⟩ := h.op_at hn.at_
  obtain ⟨_, hgood, hpc, hok, hval⟩ := h.ent i e he
  obtain ⟨q, hq, hrep⟩ := inv.stage
  unfold wpOp
  have hat : ops.toArray[i]? = some o := by simpa using hn.at_
  simp only [hat]
  have hw := wants_spec (ops := ops) (n := n) (t := e.t) (pc := e.st.pc) (ρ := ρ) (by rw [hpc]; exact hp) (a := a) (o := o) (fun j b g d hg hj hd _ => (h.sees inv hn he (names_guard hg hj hd)).2)
  -- a deed that turns nothing keeps the stage
  have keep : (∀ v s, e.deed ≠ .heap v s) → ∀ w', Rep ρ (stAt es st' q) w' → ∃ q, (∀ (k : Nat) (e : Ent) (v : V) (s : St), es[k]? = some e → e.deed = .heap v s → (with1 S i k = true ↔ k < q)) ∧ Rep ρ (stAt es st' q) w' := by
    intro hne w' hrep'
    refine ⟨q, fun k x v s hk hx => ?_, hrep'⟩
    have hki : k ≠ i := fun hki => by subst hki; rw [he] at hk; cases hk; exact hne v s hx
    simp only [with1, Bool.or_eq_true, beq_iff_eq, hki, or_false]
    exact hq k x v s hk hx
  have hreadp : ∀ p : PC, p.holds ρ → Reads ρ (fun x => (rdT n e.t x).den ρ) (rdS n e.t p) := fun p hp => readsS_of_oks (n := n) hok hp
  -- the operation, its operands read in the text's order
  have exec : (∀ cs b, o.op ≠ .select cs b) → execOp a.eval o = execOp (fun x => (rdT n e.t x).den ρ) o := by
    intro hsel
    refine execOp_congr o hsel fun x hx => ?_
    exact (rdT_spec (fun d hd => by subst hd; exact h.sees inv hn he (names_operand hx))).1
  have hqpc : (stAt es st' q).pc.holds ρ := by rw [h.stAt_pc hst]; exact hp
  have hepc : e.st.pc.holds ρ := by rw [hpc]; exact hp
  have run : Region.wanted o (yielded ops.toArray a.tmps) = true → (∀ cs b, o.op ≠ .select cs b) →
      Follows P ρ (stAt es st' q) w o a K (opR P (rdS n e.t e.st.pc) (stAt es st' q) o.op) →
      (if Region.wanted o (yielded ops.toArray a.tmps) = true then o.wp P a w K Q ∨ o.asks P a w ∧ LetsOut Q else K (a.put o.dst undef) w) := by
    intro hwt hsel hf
    rw [if_pos hwt]
    left
    unfold Oper.wp
    rw [exec hsel]
    exact upon_of_lands (opR_sound hrep hqpc (hreadp _ hepc) o) hf
  have nosel : ∀ {st : St} {rd : Rd} {r : R}, opR P rd st o.op = r → (∀ c, r ≠ .fail c) → ∀ cs b, o.op ≠ .select cs b := by
    intro st rd r hr hne cs b hop
    rw [hop] at hr
    exact hne 199 hr.symm
  -- the operation where it is not known whether it is carried out
  have runF : ∀ (f : E) (v : V) (s : St), wants ops n e.t e.st.pc o.guard = .ask f → specR P call n e.t s o.op f = some v → s.pc = st0.pc → Rep ρ s w →
      (∀ w', Rep ρ s w' → K (a.put o.dst (v.den ρ)) w') →
      (if Region.wanted o (yielded ops.toArray a.tmps) = true then o.wp P a w K Q ∨ o.asks P a w ∧ LetsOut Q else K (a.put o.dst undef) w) := by
    intro f v s hwf hsp hspc hsr hk
    rw [hwf] at hw
    obtain ⟨hf, hwd⟩ := hw
    obtain ⟨s1, s2, s3⟩ := specR_sound hc hcm hsr (by rw [hspc]; exact hp) hf hreadp o hsp
    by_cases h0 : f.den ρ = 0
    · rw [if_neg (by rw [hwd]; simp [h0])]
      have := hk w hsr
      rwa [s2 h0] at this
    · rw [if_pos (by rw [hwd]; simp [h0])]
      left
      unfold Oper.wp
      by_cases hsel : ∃ cs b, o.op = .select cs b
      · exfalso
        obtain ⟨cs, b, hop⟩ := hsel
        unfold specR at hsp
        obtain ⟨p, e1, _⟩ := putF_true (pc := s.pc) (by rw [hspc]; exact hp) hf h0
        rw [e1, hop] at hsp
        simp [opR] at hsp
      · rw [exec fun cs b hx => hsel ⟨cs, b, hx⟩]
        exact s3 h0 a K Q hk
  subst heo
  unfold Ent.good at hgood
  cases hd : e.deed with
  | none v =>
    rw [hd] at hgood
    have hev : e.val = v := by simp only [Ent.val, hd]
    have hst3 := keep (fun v s => by rw [hd]; simp)
    have hst2 := hst3 w hrep
    rcases hgood with ⟨hno, rfl⟩ | ⟨hyes, h1, h2, hop⟩ | ⟨f, hwf, h1, h2, hsp⟩
    · rw [hno] at hw
      rw [if_neg (by rw [hw]; simp)]
      have := h.put inv hn he hst2
      rw [hev, den_un] at this
      exact hK _ _ this
    · rw [hyes] at hw
      have hop' : opR P (rdS n e.t e.st.pc) (stAt es st' q) e.o.op = .val v := by
        rw [← hop]; exact opR_still h1 h2 (by rw [h.stAt_pc hst, hpc])
      refine run hw (nosel hop (by simp)) ?_
      rw [hop']
      intro _
      have := h.put inv hn he hst2
      rw [hev] at this
      exact hK _ _ this
    · have hsp' : specR P call n e.t (stAt es st' q) e.o.op f = some v := specR_still h1 h2 (by rw [h.stAt_pc hst, hpc]) hsp
      refine runF f v _ hwf hsp' (h.stAt_pc hst q) hrep fun w' hr' => ?_
      have := h.put inv hn he (hst3 w' hr')
      rw [hev] at this
      exact hK _ _ this
  | look v =>
    rw [hd] at hgood
    have hev : e.val = v := by simp only [Ent.val, hd]
    have hst3 := keep (fun v s => by rw [hd]; simp)
    have hst2 := hst3 w hrep
    have est : stAt es st' i = e.st := by simp [stAt, he]
    -- the look tells the same at the stage where it is carried out
    have there : ∀ Pr : St → Prop, Pr e.st → (∀ s, s.pc = st0.pc → sameVal P call n ops e.t s e.o v = true → Pr s) → Pr (stAt es st' q) := by
      intro Pr h0 hs
      rcases Nat.le_total q i with hqi | hqi
      · rcases h.stAt_first i (i - q) q (by omega) with e1 | ⟨k, x, u, s, k1, k2, k3, k4, k5⟩
        · rw [e1, est]; exact h0
        · have hp' := h.pair k i x e k2 k3 he
          unfold pairOk at hp'
          simp only [k4, hd, Bool.or_eq_true] at hp'
          rcases hp' with hb | hb
          · have := hn.ahead inv.closed (h.told.masks _ _ hb)
            have := (hq k x u s k3 k4).1 this
            omega
          · rw [k5]; exact hs _ (h.ent k x k3).2.2.1 hb
      · rcases h.stAt_last i (q - i) q (by omega) with e1 | ⟨k, x, u, s, k1, k2, k3, k4, k5⟩
        · rw [e1, est]; exact h0
        · have hki : i ≠ k := fun hki => by subst hki; rw [he] at k3; cases k3; rw [hd] at k4; cases k4
          have hp' := h.pair i k e x (by omega) he k3
          unfold pairOk at hp'
          simp only [k4, hd, Bool.or_eq_true] at hp'
          rcases hp' with hb | hb
          · have h3 := hn.behind inv.closed (h.told.masks _ _ hb)
            have := (hq k x u s k3 k4).2 k2
            rw [h3] at this; cases this
          · have := h.stAt_pc hst q
            rw [k5] at this ⊢; exact hs _ this hb
    have fin : K (a.put e.o.dst (v.den ρ)) w := by
      have := h.put inv hn he hst2
      rw [hev] at this
      exact hK _ _ this
    rcases hgood with ⟨hyes, h1, hop⟩ | ⟨f, hwf, h1, hsp⟩
    · have hop' : opR P (rdS n e.t e.st.pc) (stAt es st' q) e.o.op = .val v := by
        refine there (fun s => opR P (rdS n e.t e.st.pc) s e.o.op = .val v) hop fun s hspc hs => ?_
        unfold sameVal at hs
        rw [hspc, ← hpc, hyes] at hs
        dsimp only at hs
        cases hx : opR P (rdS n e.t e.st.pc) s e.o.op with
        | val u => rw [hx] at hs; rw [V.same_eq _ _ hs]
        | _ => rw [hx] at hs; cases hs
      rw [hyes] at hw
      refine run hw (nosel hop (by simp)) ?_
      rw [hop']
      exact fun _ => fin
    · have hsp' : specR P call n e.t (stAt es st' q) e.o.op f = some v := by
        refine there (fun s => specR P call n e.t s e.o.op f = some v) hsp fun s hspc hs => ?_
        unfold sameVal at hs
        rw [hspc, ← hpc, hwf] at hs
        dsimp only at hs
        cases hx : specR P call n e.t s e.o.op f with
        | none => rw [hx] at hs; cases hs
        | some u => rw [hx] at hs; rw [V.same_eq _ _ hs]
      refine runF f v _ hwf hsp' (h.stAt_pc hst q) hrep fun w' hr' => ?_
      have := h.put inv hn he (hst3 w' hr')
      rw [hev] at this
      exact hK _ _ this
  | heap v s =>
    rw [hd] at hgood
    have hev : e.val = v := by simp only [Ent.val, hd]
    have est : stAt es st' i = e.st := by simp [stAt, he]
    have hheap : ∀ (k : Nat) (x : Ent) (u : V) (z : St), es[k]? = some x → x.deed = .heap u z → heapOp x.o.op = true := by
      intro k x u z hk hx
      have := (h.ent k x hk).2.1
      unfold Ent.good at this
      rw [hx] at this
      rcases this with h1 | ⟨f, _, h1, _⟩
      · exact h1.2.1
      · exact h1
    have hh : heapOp e.o.op = true := hheap i e v s he hd
    have hqi : q ≤ i := by
      have h1 := (hq i e v s he hd).2
      rcases Nat.lt_or_ge i q with h2 | h2
      · have := h1 h2
        rw [hn.not] at this
        cases this
      · exact h2
    have estq : stAt es st' q = e.st := by
      rcases h.stAt_first i (i - q) q (by omega) with e1 | ⟨k, x, u, z, k1, k2, k3, k4, _⟩
      · rw [e1, est]
      · have := hn.ahead inv.closed (h.told.chain k i x.o e.o (h.ent k x k3).1 hn.at_ (hheap k x u z k3 k4) hh k2)
        have := (hq k x u z k3 k4).1 this
        omega
    have enext : stAt es st' (i + 1) = s := by
      rw [(linked_step h.link he).1]; simp only [Ent.next, hd]
    have stage : ∀ w', Rep ρ s w' → ∃ q, (∀ (k : Nat) (e : Ent) (v : V) (s : St), es[k]? = some e → e.deed = .heap v s → (with1 S i k = true ↔ k < q)) ∧ Rep ρ (stAt es st' q) w' := by
      intro w' hr'
      refine ⟨i + 1, fun k x u z hk hx => ?_, by rw [enext]; exact hr'⟩
      simp only [with1, Bool.or_eq_true, beq_iff_eq]
      rcases Nat.lt_trichotomy k i with hlt | rfl | hlt
      · have := hn.ahead inv.closed (h.told.chain k i x.o e.o (h.ent k x hk).1 hn.at_ (hheap k x u z hk hx) hh hlt)
        exact ⟨fun _ => by omega, fun _ => .inl this⟩
      · exact ⟨fun _ => by omega, fun _ => .inr rfl⟩
      · have := hn.behind inv.closed (h.told.chain i k e.o x.o hn.at_ (h.ent k x hk).1 hh (hheap k x u z hk hx) hlt)
        refine ⟨fun h1 => ?_, fun h1 => by omega⟩
        rcases h1 with h1 | h1
        · rw [this] at h1; cases h1
        · omega
    have fin : ∀ w', Rep ρ s w' → K (a.put e.o.dst (v.den ρ)) w' := by
      intro w' hr'
      have := h.put inv hn he (stage w' hr')
      rw [hev] at this
      exact hK _ _ this
    have hrep' := hrep
    rw [estq] at hrep'
    have hpe : e.st.pc.holds ρ := by rw [hpc]; exact hp
    rcases hgood with ⟨hyes, _, hturn⟩ | ⟨f, hwf, _, hsp, hse⟩
    case inr => exact runF f v e.st hwf hsp hpc hrep' fun w' hr' => fin w' (by rw [hse]; exact hr')
    rw [hyes] at hw
    rcases hturn with ⟨hop, hs⟩ | ⟨b, hop, hs⟩ | ⟨b, hop, hs⟩ | ⟨b, x, hop, hs⟩ | ⟨g, args, p, hop, hg, hv, hs⟩
    · refine run hw (nosel hop (by simp)) ?_
      rw [estq, hop]
      exact fun _ => fin w (by rw [hs]; exact hrep')
    · refine run hw (nosel hop (by simp)) ?_
      rw [estq, hop]
      exact fun w' _ hr' => fin w' (by rw [hs]; exact hr')
    · refine run hw (nosel hop (by simp)) ?_
      rw [estq, hop]
      exact fun w' _ hr' => fin w' (by rw [hs]; exact hr')
    · refine run hw (nosel hop (by simp)) ?_
      rw [estq, hop]
      exact fun w' _ hr' => fin w' (by rw [hs]; exact hr')
    · refine run hw (nosel hop (by simp)) ?_
      rw [estq, hop]
      intro hargs
      obtain ⟨c1, c2⟩ := hc g args e.st w _ hrep' hpe hargs hg
      refine ⟨c1, c2 _ fun y hy w' hr' _ _ => ?_⟩
      simp only [List.mem_singleton] at hy
      subst hy
      rw [← hv]
      exact fin w' (by rw [hs]; exact hr'.know _)

theorem tAt_ok (h : Ran P ρ call n ops m t0 t' st0 st' es) : ∀ k, k ≤ es.length → ∀ d, ((tAt es t' k).get .un d).ok ρ
  | 0, _ => by rw [(linked_zero h.link).2]; exact h.ok0
  | k + 1, hk => by
    have ih := tAt_ok h k (by omega)
    have hlt : k < es.length := by omega
    have he := List.getElem?_eq_getElem hlt
    rw [(linked_step h.link he).2]
    have et : tAt es t' k = es[k].t := by simp [tAt, he]
    rw [et] at ih
    exact oks_put ih _ (h.ent k _ he).2.2.2.2

theorem finish (h : Ran P ρ call n ops m t0 t' st0 st' es) {S : Nat → Bool} {a : Act} {w : World} (inv : Inv ρ n ops t0 st' es S a w) (hall : ∀ i, i < es.length → S i = true) : Fr ρ n t' a ∧ Rep ρ st' w := by
  have eN : tAt es t' es.length = t' := by simp [tAt]
  have sN : stAt es st' es.length = st' := by simp [stAt]
  have same : ∀ d k, k ≤ es.length → lastW t0 es S d k = lastW t0 es (fun _ => true) d k := by
    intro d k
    induction k with
    | zero => intro _; rfl
    | succ k ih =>
      intro hk
      rw [lastW_succ, lastW_succ, ih (by omega), hall k (by omega)]
  refine ⟨⟨inv.defers, inv.size, ?_, fun d hd => ?_, fun d => ?_⟩, ?_⟩
  · have := h.tAt_full es.length (Nat.le_refl _); rwa [eN] at this
  · rw [inv.val d hd, same d _ (Nat.le_refl _), ← h.tAt_get hd _ (Nat.le_refl _), eN]
  · have := h.tAt_ok es.length (Nat.le_refl _) d
    rwa [eN] at this
  · obtain ⟨q, hq, hrep⟩ := inv.stage
    rcases Nat.le_total q es.length with hle | hle
    · rcases h.stAt_first es.length (es.length - q) q (by omega) with e1 | ⟨k, x, u, z, k1, k2, k3, k4, _⟩
      · rwa [e1, sN] at hrep
      · have := (hq k x u z k3 k4).1 (hall k k2)
        omega
    · have : stAt es st' q = st' := by
        simp only [stAt]
        rw [List.getElem?_eq_none hle]
      rwa [this] at hrep

end Ran

theorem binds_any (e : Edge) : Region.binds .any e = bindsB e := by
  unfold Region.binds bindsB
  cases e.ground <;> rfl

theorem Ran.any (h : Ran P ρ call n ops m t0 t' st0 st' es) (hc : CallOk P ρ call) (hcm : Calm P call) (hp : st0.pc.holds ρ) (hst : st'.pc = st0.pc) {Q : Exit → Act → World → Prop}
    (hQ : ∀ a w, Fr ρ n t' a → Rep ρ st' w → Q .normal a w) : ∀ (fuel : Nat) (listed : Array Bool) (a : Act) (w : World), listed.size = ops.length → listed.toList.count false ≤ fuel →
      Inv ρ n ops t0 st' es (fun i => listed.getD i false) a w → wpAny P .any ops.toArray Q fuel listed a w := by
  have done : ∀ (listed : Array Bool) (a : Act) (w : World), Inv ρ n ops t0 st' es (fun i => listed.getD i false) a w → (∀ i, i < ops.length → listed.getD i false = true) → Q .normal a w := by
    intro listed a w inv hall
    obtain ⟨h1, h2⟩ := h.finish inv (fun i hi => hall i (by rw [← h.len]; exact hi))
    exact hQ a w h1 h2
  intro fuel
  induction fuel with
  | zero =>
    intro listed a w hsz hcnt inv
    have hno : ∀ i, i < ops.length → listed.getD i false = true := by
      intro i hi
      have h0 : listed.toList.count false = 0 := by omega
      rw [List.count_eq_zero] at h0
      have hlt : i < listed.size := by omega
      rw [Array.getD_eq_getD_getElem?, Array.getElem?_eq_getElem hlt]
      simp only [Option.getD_some]
      cases hb : listed[i]
      · exact absurd (hb ▸ (by simp : listed[i] ∈ listed.toList)) h0
      · rfl
    refine ⟨?_, done listed a w inv hno⟩
    rw [List.eq_nil_iff_forall_not_mem]
    intro j hj
    obtain ⟨h1, o, ho, _⟩ := mem_ready.1 hj
    have hlt : j < ops.length := by
      have := (List.getElem?_eq_some_iff.1 (by simpa using ho : ops[j]? = some o)).1
      exact this
    have h2 := hno j hlt
    have hlt' : j < listed.size := by omega
    rw [Array.getD_eq_getD_getElem?, Array.getElem?_eq_getElem hlt'] at h1 h2
    simp only [Option.getD_some] at h1 h2
    rw [h1] at h2; cases h2
  | succ fuel ih =>
    intro listed a w hsz hcnt inv
    refine ⟨fun hnil => done listed a w inv fun i => ?_, fun i hi => ?_⟩
    · induction i using Nat.strongRecOn with
      | _ i ihi =>
        intro hlt
        cases hb : listed.getD i false
        · exfalso
          have hlt' : i < listed.size := by omega
          have hmem : i ∈ Region.ready .any ops.toArray listed := by
            refine mem_ready.2 ⟨?_, ops[i], by simp, fun e he hbd => ?_⟩
            · rw [Array.getD_eq_getD_getElem?, Array.getElem?_eq_getElem hlt'] at hb ⊢
              simpa using hb
            · rw [binds_any] at hbd
              have hon := h.told.back i ops[i] (List.getElem?_eq_getElem hlt) e (by simpa using he) hbd
              exact ihi e.on hon (by omega)
          rw [hnil] at hmem; cases hmem
        · rfl
    · obtain ⟨h1, o, ho, hed⟩ := mem_ready.1 hi
      have ho' : ops[i]? = some o := by simpa using ho
      have hlt : i < ops.length := (List.getElem?_eq_some_iff.1 ho').1
      have hlt' : i < listed.size := by omega
      have hb : listed[i] = false := by
        rw [Array.getD_eq_getD_getElem?, Array.getElem?_eq_getElem hlt'] at h1
        simpa using h1
      have hn : Next ops (fun i => listed.getD i false) i o := by
        refine ⟨ho', ?_, fun e he hbd => hed e (by simpa using he) (by rw [binds_any]; exact hbd)⟩
        show listed.getD i false = false
        rw [Array.getD_eq_getD_getElem?, Array.getElem?_eq_getElem hlt']
        simpa using hb
      refine h.step hc hcm hp hst inv hn fun a' w' inv' => ih _ a' w' (by simpa using hsz) ?_ ?_
      · rw [Array.toList_setIfInBounds, List.count_set (by simpa using hlt')]
        have : (listed.toList[i]'(by simpa using hlt')) = false := by simpa using hb
        rw [this]
        simp only [beq_self_eq_true, if_true]
        have : (true == false) = false := rfl
        rw [this]
        simp only [Bool.false_eq_true, if_false]
        omega
      · have e : with1 (fun i => listed.getD i false) i = fun k => (listed.setIfInBounds i true).getD k false := by
          funext k
          simp only [with1]
          by_cases hki : k = i
          · subst hki; simp [hlt']
          · have : (k == i) = false := by simpa using hki
            rw [this, Bool.or_false, getD_set_ne false (Ne.symm hki)]
        rwa [e] at inv'

end
end Go.Proofs.YtmacjmofhaghbaaDoor.Sy
end

/-
  A symbolic evaluator for the model's code: code, calls.
-/
import Derived.Test.YtmacjmofhaghbaaDoorSyS
import Derived.LoopN
import Derived.Scope
import Derived.Calls
noncomputable section
namespace Go.Proofs.YtmacjmofhaghbaaDoor.Sy
open Go

section
variable {P : Program} {ρ : Env}

theorem pcsOf_mem {p : V × St} : ∀ {l : List (V × St)}, p ∈ l → p.2.pc ∈ pcsOf l
  | [], h => by cases h
  | q :: l, h => by
    rcases List.mem_cons.1 h with rfl | h
    · simp [pcsOf]
    · simp [pcsOf, pcsOf_mem h]

/-- What a run in the text's order may ask. -/
def Asks (ρ : Env) : D → Prop
  | .need q => q.ok ρ
  | .many l => ∃ pc ∈ l, pc.holds ρ
  | _ => True

theorem runOne_asks {call : Calls1} (hc : CallOk P ρ call) (hcm : Calm P call) {n : Nat} {all : List Oper} {m : T Nat} : ∀ (l : List Oper) (i : Nat) (t : T V) (st : St) (L : List (Nat × Ent)),
    (∃ w, Rep ρ st w) → st.pc.holds ρ → (∀ d, (t.get .un d).ok ρ) → Asks ρ (runOne P call n all m l i t st L)
  | [], i, t, st, L, _, _, _ => trivial
  | o :: rest, i, t, st, L, hr, hp, ht => by
    obtain ⟨w, hw⟩ := hr
    have ih := runOne_asks hc hcm (n := n) (all := all) (m := m) rest (i + 1)
    have hread := readsS_of_oks (ρ := ρ) (n := n) ht hp
    have hl := opR_sound hw hp (P := P) hread o
    have turn : ∀ (v : V) (s : St), v.ok ρ → (∃ w', Rep ρ s w') → s.pc = st.pc → Asks ρ (ift (allB (fun q => pairOk P call n all m q (i, ⟨t, st, o, .heap v s⟩)) L) (runOne P call n all m rest (i + 1) (putT n t o.dst v) s ((i, ⟨t, st, o, .heap v s⟩) :: L)
         ) <| .fail [rest.length, 907]) := by
      intro v s k1 k3 k2
      cases hall : allB (fun q => pairOk P call n all m q (i, ⟨t, st, o, .heap v s⟩)) L
      · trivial
      · exact ih _ _ _ k3 (by rw [k2]; exact hp) (oks_put ht o.dst k1)
    have still : ∀ (v : V), v.ok ρ → Asks ρ (ift (readOp o.op) (
          ift (allB (fun q => pairOk P call n all m q (i, ⟨t, st, o, .look v⟩)) L) (runOne P call n all m rest (i + 1) (putT n t o.dst v) st ((i, ⟨t, st, o, .look v⟩) :: L)
           ) <| .fail [rest.length, 908]
         ) <| runOne P call n all m rest (i + 1) (putT n t o.dst v) st L) := by
      intro v hv
      cases hro : readOp o.op
      · exact ih _ _ _ ⟨w, hw⟩ hp (oks_put ht o.dst hv)
      · simp only [ift_true]
        cases hall : allB (fun q => pairOk P call n all m q (i, ⟨t, st, o, .look v⟩)) L
        · trivial
        · exact ih _ _ _ ⟨w, hw⟩ hp (oks_put ht o.dst hv)
    unfold runOne
    dsimp only
    have hws := wants_spec (ρ := ρ) (ops := all) (n := n) (t := t) (pc := st.pc) hp (o := o) (a := ⟨(Array.range n).map fun d => (t.get .un d).den ρ, []⟩)
      (fun j b g d _ _ _ hd => ⟨by simp [hd], ht d⟩)
    cases hwv : wants all n t st.pc o.guard with
    | bad => trivial
    | ask e =>
      rw [hwv] at hws
      dsimp only
      cases hsp : specR P call n t st o.op e with
      | none => exact hws.1
      | some v =>
        obtain ⟨s1, _, _⟩ := specR_sound hc hcm hw hp hws.1 (fun p hp => readsS_of_oks (n := n) ht hp) o hsp
        dsimp only
        cases hh : heapOp o.op
        · exact still v s1
        · exact turn v st s1 ⟨w, hw⟩ rfl
    | no => exact ih _ _ _ ⟨w, hw⟩ hp (oks_put ht o.dst (ok_un ρ))
    | yes =>
      dsimp only
      cases hh : heapOp o.op
      · simp only [ift_false]
        cases hop : opR P (rdS n t st.pc) st o.op with
        | val v =>
          rw [hop] at hl
          exact still v hl.2
        | need q => rw [hop] at hl; exact hl
        | _ => trivial
      · simp only [ift_true]
        have step : ∀ (v : V) (s : St), Turn P call n ⟨t, st, o, .heap v s⟩ v s →
            Asks ρ (ift (allB (fun q => pairOk P call n all m q (i, ⟨t, st, o, .heap v s⟩)) L) (runOne P call n all m rest (i + 1) (putT n t o.dst v) s ((i, ⟨t, st, o, .heap v s⟩) :: L)
             ) <| .fail [rest.length, 907]) := by
          intro v s htn
          obtain ⟨k1, k2, k3⟩ := htn.ok hc (w := w) hw hp hread
          exact turn v s k1 k3 k2
        cases hop : opR P (rdS n t st.pc) st o.op with
        | val v => exact step v st (.inl ⟨hop, rfl⟩)
        | new v b => exact step v _ (.inr (.inl ⟨b, hop, rfl⟩))
        | newD v b => exact step v _ (.inr (.inr (.inl ⟨b, hop, rfl⟩)))
        | upd v b x => exact step v _ (.inr (.inr (.inr (.inl ⟨b, x, hop, rfl⟩))))
        | need q' => rw [hop] at hl; exact hl
        | fail c => trivial
        | call f args =>
          rw [hop] at hl
          dsimp only
          cases hcl : call f args st with
          | bad c => trivial
          | ok l =>
            have many : ∃ pc ∈ pcsOf l, pc.holds ρ := by
              obtain ⟨c1, c2⟩ := hc f args st w _ hw hp hl.1 hcl
              obtain ⟨en, w', _, hR, _⟩ := c2 (fun _ _ => ∃ pc ∈ pcsOf l, pc.holds ρ) (fun z hz w' _ h2 _ => ⟨_, pcsOf_mem hz, h2⟩) []
              cases en with
              | returned v => exact hR
              | panicked c => exact hR.elim
              | outgrown => exact hR.elim
            match l, hcl, many with
            | [], _, h => exact h
            | [p], hcl, h =>
              dsimp only
              cases ho : Nat.beq p.2.pc.cnt st.pc.cnt
              · exact h
              · exact step p.1 _ (.inr (.inr (.inr (.inr ⟨f, args, p, hop, hcl, rfl, rfl⟩))))
            | p :: y :: l, _, h => exact h

/-- A drawn region, with its forks. -/
theorem drawRun_sound {call : Calls1} (hc : CallOk P ρ call) (hcm : Calm P call) {n : Nat} {ops : List Oper} {m : T Nat} (ht : Told ops n m) {Q : Exit → Act → World → Prop} :
    ∀ (k : Nat) (t : T V) (st : St) (a : Act) (w : World) (r : List (T V × St)), Fr ρ n t a → Rep ρ st w → st.pc.holds ρ → drawRun P call n ops m t k st = .ok r →
      (∀ p ∈ r, ∀ a' w', Fr ρ n p.1 a' → Rep ρ p.2 w' → p.2.pc.holds ρ → Q .normal a' w') → wpAny P .any ops.toArray Q ops.toArray.size (Array.replicate ops.toArray.size false) a { w with drawn := w.drawn + 1 }
  | 0, t, st, a, w, r, _, _, _, h, _ => by simp [drawRun] at h
  | k + 1, t, st, a, w, r, hf, hr, hp, h, hQ => by
    have hto := hf.ok
    unfold drawRun at h
    have hr1 := hr.draw
    cases ho : runOne P call n ops m ops 0 t { st with dr := st.dr + 1 } [] with
    | fail c => simp [ho] at h
    | need q =>
      simp only [ho] at h
      have hq := runOne_asks hc hcm ops 0 t { st with dr := st.dr + 1 } [] (m := m) (all := ops) (n := n) ⟨_, hr1⟩ hp hto
      rw [ho] at hq
      obtain ⟨p, l', h1, h2, h3⟩ := forkOn_spec hp hq h
      exact drawRun_sound hc hcm ht k t (st.know p) a w l' hf (hr.know p) h1 h2 fun p hp => hQ p (h3 p hp)
    | many pcs =>
      simp only [ho] at h
      have hq := runOne_asks hc hcm ops 0 t { st with dr := st.dr + 1 } [] (m := m) (all := ops) (n := n) ⟨_, hr1⟩ hp hto
      rw [ho] at hq
      obtain ⟨pc, hpm, hpc⟩ := hq
      obtain ⟨r', h1, h2⟩ := flat_spec h pc hpm
      exact drawRun_sound hc hcm ht k t (st.know pc) a w r' hf (hr.know pc) hpc h1 fun p hp => hQ p (h2 p hp)
    | done t' st' =>
      simp only [ho, Res.ok.injEq] at h
      subst h
      obtain ⟨es, s1, s2, s3, s4, s5⟩ := runOne_spec hc hcm ops 0 t { st with dr := st.dr + 1 } [] ⟨_, hr1⟩ hp hto ho
      have ran : Ran P ρ call n ops m t t' { st with dr := st.dr + 1 } st' es := by
        refine ⟨ht, s1, s2, s3, fun k k' e e' hk he he' => ?_, hf.full, hto⟩
        have := s5 k k' e e' hk he he'
        simpa using this
      have hst : st'.pc = st.pc := by
        have e1 : stAt es st' es.length = st' := by simp [stAt]
        rcases Nat.eq_zero_or_pos es.length with h0 | h0
        · have := (linked_zero s3).1
          rw [h0] at e1
          rw [← e1, this]
        · have hlt : es.length - 1 < es.length := by omega
          have he := List.getElem?_eq_getElem hlt
          have e2 := (linked_step s3 he).1
          have e3 : es.length - 1 + 1 = es.length := by omega
          rw [e3, e1] at e2
          obtain ⟨_, hg, hpc, hok, _⟩ := s2 _ _ he
          rw [e2]
          unfold Ent.next
          unfold Ent.good at hg
          cases hd : es[es.length - 1].deed with
          | none v => exact hpc
          | look v => exact hpc
          | heap v s =>
            rw [hd] at hg
            dsimp only
            rcases hg with ⟨_, _, hg⟩ | ⟨f, _, _, _, hs⟩
            case inr => rw [hs]; exact hpc
            rcases hg with ⟨_, hs⟩ | ⟨b, _, hs⟩ | ⟨b, _, hs⟩ | ⟨b, x, _, hs⟩ | ⟨g, args, p, _, _, _, hs⟩
            · rw [hs]; exact hpc
            · rw [hs]; exact hpc
            · rw [hs]; exact hpc
            · rw [hs]; cases b <;> exact hpc
            · rw [hs]; exact hpc
      refine ran.any hc hcm hp hst (fun a' w' h1 h2 => hQ (t', st') (by simp) a' w' h1 h2 (by rw [hst]; exact hp)) _ _ a _ (by simp) (by simp) ?_
      refine ⟨fun i o _ hi => by simp [Array.getElem?_replicate] at hi; split at hi <;> simp at hi, hf.defers, hf.size, fun d hd => ?_, 0, fun i e v s _ _ => ?_, ?_⟩
      · have : ∀ k, lastW t es (fun i => (Array.replicate ops.toArray.size false).getD i false) d k = t.get .un d := by
          intro k
          induction k with
          | zero => rfl
          | succ k ih =>
            rw [lastW_succ, ih]
            have : (Array.replicate ops.toArray.size false).getD k false = false := by
              simp [Array.getElem?_replicate]; split <;> simp
            cases es[k]? <;> simp
            intro hx
            simp [Array.getElem?_replicate] at hx
            split at hx <;> simp at hx
        rw [this]
        exact hf.val d hd
      · constructor
        · intro hx
          simp [Array.getElem?_replicate] at hx
          split at hx <;> simp at hx
        · intro hx; omega
      · rw [(linked_zero s3).1]; exact hr1

/-! ## code -/
def Ex.den : Ex → Exit
  | .normal => .normal
  | .exit id => .exit id
  | .ret => .ret

/-- One function's calls answer as the evaluator says. -/
def CallAt (P : Program) (ρ : Env) (f : FuncId) (h : List V → St → Res (V × St)) : Prop :=
  ∀ (args : List V) (st : St) (w : World) (r : List (V × St)), Rep ρ st w → st.pc.holds ρ → V.oks ρ args → h args st = .ok r →
    (callFunc f (V.dens ρ args).toArray).run P w = .ok (.enter f (V.dens ρ args).toArray) w ∧
    ∀ R : Value → World → Prop, (∀ p ∈ r, ∀ w', Rep ρ p.2 w' → p.2.pc.holds ρ → p.1.ok ρ → R (p.1.den ρ) w') →
      Calls P f (V.dens ρ args).toArray w (fun | .returned v, w' => R v w' | _, _ => False)

def HooksOk (P : Program) (ρ : Env) (H : Hooks) : Prop := ∀ f h, H f = some h → CallAt P ρ f h ∧ pureF P f = false

/-- Code does as the evaluator says. -/
def RunOk (P : Program) (ρ : Env) (run : Nat → Code → T V → St → Res Leaf) : Prop :=
  ∀ (n : Nat) (c : Code) (t : T V) (st : St) (a : Act) (w : World) (r : List Leaf) (Q : Exit → Act → World → Prop), Fr ρ n t a → Rep ρ st w → st.pc.holds ρ → run n c t st = .ok r →
    (∀ l ∈ r, ∀ a' w', Fr ρ n l.t a' → Rep ρ l.st w' → l.st.pc.holds ρ → Q l.x.den a' w') → c.wp P Q a w

theorem T.get_setAll {α : Type} (d : α) {k : Nat} : ∀ (l : List α) (i : Nat) (t : T α), T.Full k t → i + l.length ≤ 2 ^ k - 1 →
    T.Full k (T.setAll l i t) ∧ ∀ j, (T.setAll l i t).get d j = if i ≤ j ∧ j < i + l.length then l.getD (j - i) d else t.get d j
  | [], i, t, hf, _ => ⟨hf, fun j => by rw [if_neg (by simp only [List.length_nil]; omega)]; rfl⟩
  | x :: l, i, t, hf, hle => by
    simp only [List.length_cons] at hle
    obtain ⟨h1, h2⟩ := T.get_setAll d l (i + 1) (t.set i x) (T.full_set hf _ _) (by omega)
    refine ⟨h1, fun j => ?_⟩
    show (T.setAll l (i + 1) (t.set i x)).get d j = _
    rw [h2 j]
    simp only [List.length_cons]
    by_cases hij : i = j
    · subst hij
      rw [if_neg (by omega), if_pos (by omega), T.get_set_eq _ _ hf _ (by omega)]
      simp
    · by_cases hin : i + 1 ≤ j ∧ j < i + 1 + l.length
      · rw [if_pos hin, if_pos (by omega)]
        have : j - i = (j - (i + 1)) + 1 := by omega
        rw [this]; simp
      · rw [if_neg hin, if_neg (by omega), T.get_set_ne _ _ _ _ _ hij]

theorem frame_spec {n : Nat} {args : List V} {t : T V} (h : frame n args = some t) (ha : V.oks ρ args) :
    Fr ρ n t { tmps := (V.dens ρ args).toArray ++ Array.replicate (n - (V.dens ρ args).toArray.size) undef, defers := [] } := by
  unfold frame at h
  dsimp only at h
  cases hc : Nat.blt n (2 ^ depthOf 20 n) && Nat.ble args.length n <;> simp only [hc, ift_false, ift_true, Option.some.injEq, reduceCtorEq] at h
  subst h
  simp only [Bool.and_eq_true] at hc
  have h1 : n < 2 ^ depthOf 20 n := by simpa [Nat.blt_eq] using hc.1
  have h2 := Nat.le_of_ble_eq_true hc.2
  obtain ⟨f1, f2⟩ := T.get_setAll V.un (k := depthOf 20 n) args 0 (T.mk .un (depthOf 20 n)) (T.full_mk _ _) (by omega)
  refine ⟨rfl, ?_, ⟨_, f1, by omega⟩, fun i hi => ?_, fun i => ?_⟩
  · simp [dens_length]; omega
  · rw [f2 i, T.get_mk]
    by_cases hlt : i < args.length
    · rw [if_pos (by omega)]
      rw [Array.getElem?_append_left (by simp [dens_length]; exact hlt)]
      simp [dens_map, hlt]
    · rw [if_neg (by omega), Array.getElem?_append_right (by simp [dens_length]; omega)]
      simp only [List.size_toArray, dens_length]
      rw [Array.getElem?_replicate, if_pos (by omega), den_un]
  · rw [f2 i, T.get_mk]
    split
    · rename_i hlt
      have : i < args.length := by omega
      simp [this]
      exact (oks_iff ρ args).1 ha _ (List.getElem_mem _)
    · exact ok_un ρ

/-- What a result stands for. -/
def resOf (tmps : Array Value) : ResultVar → Sem Value
  | .tmp t => pure (tmps.getD t undef)
  | .cell a t => do loadVar t (← asAddr (tmps.getD a undef))

theorem results_eq (fn : Func) (tmps : Array Value) : results fn tmps = (do
    let vs ← fn.results.mapM (resOf tmps)
    pure (if h : vs.size = 1 then vs[0] else .tuple vs)) := by
  have h : resOf tmps = (fun (x : ResultVar) => match x with
      | .tmp t => (pure (tmps.getD t undef) : Sem Value)
      | .cell a t => do loadVar t (← asAddr (tmps.getD a undef))) := funext fun x => by cases x <;> rfl
  rw [h]; rfl

theorem retV_spec {n : Nat} {t : T V} {st : St} {a : Act} {w : World} (hf : Fr ρ n t a) (hr : Rep ρ st w) (hp : st.pc.holds ρ) : ∀ (l : List ResultVar) (vs : List V), retV P n t st l = some vs →
    (l.mapM (resOf a.tmps)).run P w = .ok (V.dens ρ vs) w ∧ V.oks ρ vs
  | [], vs, h => by
    simp only [retV, Option.some.injEq] at h
    subst h
    exact ⟨by simp [V.dens], by simp only [V.oks]⟩
  | .tmp i :: l, vs, h => by
    unfold retV at h
    cases hm : retV P n t st l with
    | none => simp [hm] at h
    | some m =>
      simp only [hm, Option.some.injEq] at h
      subst h
      obtain ⟨h1, h2⟩ := retV_spec hf hr hp l m hm
      obtain ⟨e1, e2⟩ := hf.readsS hp (.tmp i)
      refine ⟨?_, ?_⟩
      · rw [List.mapM_cons]
        simp only [resOf, Sem.run_bind, Sem.run_pure, Result.andThen_ok, h1, V.dens]
        rw [← e1]; rfl
      · simp only [V.oks]; exact ⟨e2, h2⟩
  | .cell b ty :: l, vs, h => by
    unfold retV at h
    obtain ⟨e1, e2⟩ := hf.readsS hp (.tmp b)
    have hl := loadR_sound (P := P) hr hp ty e2
    cases hv : loadR P st ty (rdS n t st.pc (.tmp b)) with
    | val v =>
      simp only [hv] at h
      rw [hv] at hl
      cases hm : retV P n t st l with
      | none => simp [hm] at h
      | some m =>
        simp only [hm, Option.some.injEq] at h
        subst h
        obtain ⟨h1, h2⟩ := retV_spec hf hr hp l m hm
        refine ⟨?_, ?_⟩
        · rw [List.mapM_cons]
          have e : (do loadVar ty (← asAddr (a.tmps.getD b undef)) : Sem Value).run P w = .ok (v.den ρ) w := by
            have h3 := hl.1
            rw [← e1] at h3
            simp only [Act.eval] at h3
            cases hx : a.tmps.getD b undef with
            | pointer p =>
              rw [hx] at h3
              cases p with
              | none => simp [Instr.loadAt, Instr.sureAddr] at h3
              | some ad => simpa [Instr.loadAt, Instr.sureAddr, asAddr] using h3
            | _ => rw [hx] at h3; simp [Instr.loadAt, Instr.sureAddr] at h3
          rw [Sem.run_bind]
          simp only [resOf]
          rw [e]
          simp only [Result.andThen_ok, Sem.run_bind, h1, Sem.run_pure, V.dens]
        · simp only [V.oks]; exact ⟨hl.2, h2⟩
    | _ => simp [hv] at h

theorem oneOrTup_spec {vs : List V} (h : V.oks ρ vs) : (oneOrTup vs).den ρ = (if h : (V.dens ρ vs).toArray.size = 1 then (V.dens ρ vs).toArray[0] else .tuple (V.dens ρ vs).toArray) ∧ (oneOrTup vs).ok ρ := by
  match vs, h with
  | [], h => exact ⟨by simp [oneOrTup, V.den, V.dens], by simp only [oneOrTup, V.ok]; exact h⟩
  | [v], h =>
    simp only [V.oks, and_true] at h
    exact ⟨by simp [oneOrTup, V.dens], h⟩
  | v :: u :: l, h => exact ⟨by simp [oneOrTup, V.den, V.dens], by simp only [oneOrTup, V.ok]; exact h⟩

theorem collect_spec {n : Nat} {rs : List ResultVar} : ∀ {ls : List Leaf} {r : List (V × St)}, collect P n rs ls = .ok r → ∀ l ∈ ls, (l.x = .normal ∨ l.x = .ret) ∧ ∃ vs, retV P n l.t l.st rs = some vs ∧ (oneOrTup vs, l.st) ∈ r
  | [], _, _, l, hl => by cases hl
  | x :: ls, r, h, l, hl => by
    unfold collect at h
    have main : ∀ vs, retV P n x.t x.st rs = some vs → (x.x = .normal ∨ x.x = .ret) → (match collect P n rs ls with | .ok m => Res.ok ((oneOrTup vs, x.st) :: m) | .bad c => .bad c) = .ok r →
        (l.x = .normal ∨ l.x = .ret) ∧ ∃ vs, retV P n l.t l.st rs = some vs ∧ (oneOrTup vs, l.st) ∈ r := by
      intro vs hvs hx h
      cases hc : collect P n rs ls with
      | bad c => simp [hc] at h
      | ok m =>
        simp only [hc, Res.ok.injEq] at h
        subst h
        rcases List.mem_cons.1 hl with rfl | hl
        · exact ⟨hx, vs, hvs, by simp⟩
        · obtain ⟨h1, vs', h2, h3⟩ := collect_spec hc l hl
          exact ⟨h1, vs', h2, List.mem_cons_of_mem _ h3⟩
    cases hx : x.x with
    | exit i => simp [hx] at h
    | normal =>
      simp only [hx] at h
      cases hv : retV P n x.t x.st rs with
      | none => simp [hv] at h
      | some vs => simp only [hv] at h; exact main vs hv (.inl hx) h
    | ret =>
      simp only [hx] at h
      cases hv : retV P n x.t x.st rs with
      | none => simp [hv] at h
      | some vs => simp only [hv] at h; exact main vs hv (.inr hx) h

/-- Functions of the program are entered. -/
def Enters (P : Program) : Prop := ∀ (f : FuncId) (fn : Func), P.funcs[f]? = some fn → fn.body.isSome = true → fn.name ≠ "runtime.NumGoroutine"

theorem run_callFunc (hn : Enters P) {f : FuncId} {fn : Func} {c : Code} (hf : P.funcs[f]? = some fn) (hb : fn.body = some c) (args : Array Value) (w : World) :
    (callFunc f args).run P w = .ok (.enter f args) w := by
  have h1 := hn f fn hf (by rw [hb]; rfl)
  have h2 : (fn.name == "runtime.NumGoroutine") = false := by simpa using h1
  simp only [callFunc, Sem.run_bind, run_program, Result.andThen_ok, hf, h2, hb, Option.isNone_some, Bool.false_eq_true, if_false, Sem.run_pure]

theorem callBy_sound (hn : Enters P) {H : Hooks} (hH : HooksOk P ρ H) {run : Nat → Code → T V → St → Res Leaf} (hrun : RunOk P ρ run) : CallOk P ρ (callBy P H run) := by
  intro f args st w r hr hp ha h
  unfold callBy at h
  cases hh : H f with
  | some g => rw [hh] at h; exact (hH f g hh).1 args st w r hr hp ha h
  | none =>
    rw [hh] at h
    dsimp only at h
    cases hf : P.funcs[f]? with
    | none => simp [hf] at h
    | some fn =>
      simp only [hf] at h
      cases hb : fn.body with
      | none => simp [hb] at h
      | some body =>
        simp only [hb] at h
        cases hfr : frame fn.ntmps args with
        | none => simp [hfr] at h
        | some t =>
          simp only [hfr] at h
          cases hev : run fn.ntmps body t st with
          | bad c => simp [hev] at h
          | ok ls =>
            simp only [hev] at h
            refine ⟨run_callFunc hn hf hb _ w, fun R hR => ?_⟩
            refine calls_of_wp hf hb (hrun fn.ntmps body t st _ w ls _ (frame_spec hfr ha) hr hp hev fun l hl a' w' hf' hr' hp' => ?_)
            obtain ⟨hx, vs, hvs, hmem⟩ := collect_spec h l hl
            obtain ⟨e1, e2⟩ := retV_spec (P := P) hf' hr' hp' fn.results.toList vs hvs
            obtain ⟨o1, o2⟩ := oneOrTup_spec (ρ := ρ) e2
            have res : (results fn a'.tmps).run P w' = .ok ((oneOrTup vs).den ρ) w' := by
              rw [results_eq, Array.mapM_eq_mapM_toList]
              simp only [map_eq_pure_bind, bind_assoc, pure_bind, Sem.run_bind]
              rw [e1]
              simp only [Result.andThen_ok, Sem.run_pure]
              rw [o1]
            have fin : R ((oneOrTup vs).den ρ) w' := hR _ hmem w' hr' hp' o2
            rcases hx with hx | hx
            · rw [hx]; exact ⟨hf'.defers, _, res, fin⟩
            · rw [hx]; exact ⟨hf'.defers, _, res, fin⟩

theorem offBlock_den (id : Nat) (Q : Exit → Act → World → Prop) (l : Leaf) (a : Act) (w : World) (h : Q (offBlock id l).x.den a w) : Exit.inBlock id Q l.x.den a w := by
  unfold offBlock at h
  cases hx : l.x with
  | normal => rw [hx] at h; simp only [hx] at h; exact h
  | ret => rw [hx] at h; simp only [hx] at h; exact h
  | exit i =>
    simp only [hx] at h
    cases hi : Nat.beq i id
    · simp only [hi, ift_false, hx] at h
      have hne : i ≠ id := fun e => by rw [e, Nat.beq_refl] at hi; cases hi
      simpa [Ex.den, Exit.inBlock, hne] using h
    · simp only [hi, ift_true] at h
      have := Nat.eq_of_beq_eq_true hi
      simpa [Ex.den, Exit.inBlock, this] using h

theorem offBlock_same (id : Nat) (l : Leaf) : (offBlock id l).t = l.t ∧ (offBlock id l).st = l.st := by
  unfold offBlock
  cases l.x with
  | exit i => dsimp only; cases Nat.beq i id <;> exact ⟨rfl, rfl⟩
  | _ => exact ⟨rfl, rfl⟩

/-! ## what leaves the heap as it is -/
theorem both_mem {α : Type} {a b : Res α} {r : List α} (h : both a b = .ok r) {y : α} (hy : y ∈ r) : (∃ l, a = .ok l ∧ y ∈ l) ∨ ∃ l, b = .ok l ∧ y ∈ l := by
  cases a with
  | bad c => simp [both] at h
  | ok l =>
    cases b with
    | bad c => simp [both] at h
    | ok m =>
      simp only [both, Res.ok.injEq] at h
      subst h
      rcases List.mem_append.1 hy with h | h
      · exact .inl ⟨l, rfl, h⟩
      · exact .inr ⟨m, rfl, h⟩

theorem flat_mem {α β : Type} {f : α → Res β} : ∀ {l : List α} {r : List β}, flat f l = .ok r → ∀ y ∈ r, ∃ x ∈ l, ∃ r', f x = .ok r' ∧ y ∈ r'
  | [], r, h, y, hy => by simp only [flat, Res.ok.injEq] at h; subst h; cases hy
  | [a], r, h, y, hy => ⟨a, by simp, r, h, hy⟩
  | a :: b :: l, r, h, y, hy => by
    have h : both (f a) (flat f (b :: l)) = .ok r := h
    rcases both_mem h hy with ⟨l', h1, h2⟩ | ⟨l', h1, h2⟩
    · exact ⟨a, by simp, l', h1, h2⟩
    · obtain ⟨x, h3, r', h4, h5⟩ := flat_mem h1 y h2
      exact ⟨x, List.mem_cons_of_mem _ h3, r', h4, h5⟩

theorem forkOn_mem {α : Type} {st : St} {q : E} {k : St → Res α} {r : List α} (h : forkOn st q k = .ok r) {y : α} (hy : y ∈ r) : ∃ p r', k (st.know p) = .ok r' ∧ y ∈ r' := by
  unfold forkOn at h
  split at h
  · rcases both_mem h hy with ⟨l, h1, h2⟩ | ⟨l, h1, h2⟩
    · exact ⟨_, l, h1, h2⟩
    · exact ⟨_, l, h1, h2⟩
  · exact ⟨_, r, h, hy⟩
  · exact ⟨_, r, h, hy⟩
  · simp only [Res.ok.injEq] at h; subst h; cases hy

theorem runOps_calm {call : Calls1} {n : Nat} {all : List Oper} : ∀ (k : Nat) (l : List Oper) (t : T V) (st : St) (r : List (T V × St)), (∀ o ∈ l, heapOp o.op = false) →
    runOps P call n all k l t st = .ok r → ∀ p ∈ r, ∃ pc, p.2 = st.know pc
  | 0, _, _, _, _, _, h, _, _ => by simp [runOps] at h
  | k + 1, [], t, st, r, _, h, p, hp => by
    simp only [runOps, Res.ok.injEq] at h
    subst h
    simp only [List.mem_singleton] at hp
    subst hp
    exact ⟨st.pc, rfl⟩
  | k + 1, o :: rest, t, st, r, hl, h, p, hp => by
    have ih := runOps_calm (call := call) (n := n) (all := all) k
    have hrest : ∀ o ∈ rest, heapOp o.op = false := fun x hx => hl x (List.mem_cons_of_mem _ hx)
    have fork : ∀ q, forkOn st q (runOps P call n all k (o :: rest) t) = .ok r → ∃ pc, p.2 = st.know pc := by
      intro q h
      obtain ⟨pc, r', h1, h2⟩ := forkOn_mem h hp
      obtain ⟨pc', h3⟩ := ih (o :: rest) t (st.know pc) r' hl h1 p h2
      exact ⟨pc', h3⟩
    simp only [runOps] at h
    cases hw : wants all n t st.pc o.guard with
    | bad => simp [hw] at h
    | no => simp only [hw] at h; exact ih rest _ st r hrest h p hp
    | ask e =>
      simp only [hw] at h
      cases hs : specR P call n t st o.op e with
      | none => simp only [hs] at h; exact fork _ h
      | some v => simp only [hs] at h; exact ih rest _ st r hrest h p hp
    | yes =>
      simp only [hw] at h
      have hq := opR_quiet (P := P) (rd := rdS n t st.pc) (st := st) (hl o (by simp))
      cases hop : opR P (rdS n t st.pc) st o.op with
      | val v => simp only [hop] at h; exact ih rest _ st r hrest h p hp
      | need q => simp only [hop] at h; exact fork _ h
      | fail c => simp [hop] at h
      | new v b => rw [hop] at hq; cases hq
      | newD v b => rw [hop] at hq; cases hq
      | upd v b x => rw [hop] at hq; cases hq
      | call f args => rw [hop] at hq; cases hq

theorem ev_calm {H : Hooks} : ∀ (k n : Nat) (c : Code) (t : T V) (st : St) (r : List Leaf), pureC c = true → ev P H k n c t st = .ok r → ∀ l ∈ r, ∃ pc, l.st = st.know pc
  | 0, _, _, _, _, _, _, h, _, _ => by unfold ev at h; cases h
  | k + 1, n, c, t, st, r, hc, h, l, hl => by
    have ih := ev_calm (H := H) k n
    have one : ∀ x : Ex, Res.ok [(⟨x, t, st⟩ : Leaf)] = .ok r → ∃ pc, l.st = st.know pc := by
      intro x hx
      simp only [Res.ok.injEq] at hx
      subst hx
      simp only [List.mem_singleton] at hl
      subst hl
      exact ⟨st.pc, rfl⟩
    have next : ∀ (ls : List Leaf) (g : Leaf → Res Leaf), (∀ x ∈ ls, ∃ pc, x.st = st.know pc) → (∀ x r', g x = .ok r' → ∀ y ∈ r', ∃ pc, y.st = x.st.know pc) → flat (fun l => match l.x with | .normal => g l | _ => .ok [l]) ls = .ok r → ∃ pc, l.st = st.know pc := by
      intro ls g h1 h2 h
      obtain ⟨x, hx, r', h3, h4⟩ := flat_mem h l hl
      obtain ⟨pc, e1⟩ := h1 x hx
      have same : Res.ok [x] = .ok r' → ∃ pc, l.st = st.know pc := by
        intro h3
        simp only [Res.ok.injEq] at h3
        subst h3
        simp only [List.mem_singleton] at h4
        subst h4
        exact ⟨pc, e1⟩
      cases hxx : x.x with
      | normal =>
        simp only [hxx] at h3
        obtain ⟨pc', e2⟩ := h2 x r' h3 l h4
        exact ⟨pc', by rw [e2, e1]; rfl⟩
      | exit i => simp only [hxx] at h3; exact same h3
      | ret => simp only [hxx] at h3; exact same h3
    cases c with
    | skip => unfold ev at h; exact one _ h
    | label l => unfold ev at h; exact one _ h
    | exit id => unfold ev at h; exact one _ h
    | ret => unfold ev at h; exact one _ h
    | scope c => unfold ev at h; exact ih c t st r hc h l hl
    | seq x y =>
      unfold ev at h
      dsimp only at h
      simp only [pureC, Bool.and_eq_true] at hc
      cases he : ev P H k n x t st with
      | bad x => simp [he] at h
      | ok ls =>
        simp only [he] at h
        exact next ls (fun l => ev P H k n y l.t l.st) (fun z hz => ih x t st ls hc.1 he z hz) (fun z r' hz y' hy' => ih y z.t z.st r' hc.2 hz y' hy') h
    | cond x y z =>
      unfold ev at h
      dsimp only at h
      have hc' := hc
      simp only [pureC, Bool.and_eq_true] at hc'
      cases hx : rdS n t st.pc x with
      | bool e =>
        simp only [hx] at h
        cases ht : st.pc.tell e with
        | some b =>
          simp only [ht] at h
          cases b
          · exact ih z t st r hc'.2 h l hl
          · exact ih y t st r hc'.1 h l hl
        | none =>
          simp only [ht] at h
          obtain ⟨pc, r', h1, h2⟩ := forkOn_mem h hl
          obtain ⟨pc', h3⟩ := ih (.cond x y z) t (st.know pc) r' hc h1 l h2
          exact ⟨pc', h3⟩
      | _ => simp [hx] at h
    | block id c =>
      unfold ev at h
      dsimp only at h
      cases he : ev P H k n c t st with
      | bad x => simp [he] at h
      | ok ls =>
        simp only [he, Res.ok.injEq] at h
        subst h
        obtain ⟨x, hx, rfl⟩ := List.mem_map.1 hl
        rw [(offBlock_same id x).2]
        exact ih c t st ls hc he x hx
    | loop c =>
      unfold ev at h
      dsimp only at h
      cases he : ev P H k n c t st with
      | bad x => simp [he] at h
      | ok ls =>
        simp only [he] at h
        exact next ls (fun l => ev P H k n (.loop c) l.t l.st) (fun z hz => ih c t st ls hc he z hz) (fun z r' hz y' hy' => ih (.loop c) z.t z.st r' hc hz y' hy') h
    | region id ops draw =>
      unfold ev at h
      dsimp only at h
      simp only [pureC, Bool.and_eq_true, Bool.not_eq_true'] at hc
      obtain ⟨hd, hops⟩ := hc
      subst hd
      simp only [ift_false] at h
      cases he : runOps P (callBy P H (ev P H k)) n ops.toList 10000 ops.toList t st with
      | bad x => simp [he] at h
      | ok ls =>
        simp only [he, Res.ok.injEq] at h
        subst h
        obtain ⟨x, hx, rfl⟩ := List.mem_map.1 hl
        exact runOps_calm 10000 ops.toList t st ls (fun o ho => by have := allB_spec hops o ho; simpa using this) he x hx
    | _ => unfold ev at h; cases h

theorem collect_mem {n : Nat} {rs : List ResultVar} : ∀ {ls : List Leaf} {r : List (V × St)}, collect P n rs ls = .ok r → ∀ q ∈ r, ∃ l ∈ ls, q.2 = l.st
  | [], r, h, q, hq => by simp only [collect, Res.ok.injEq] at h; subst h; cases hq
  | x :: ls, r, h, q, hq => by
    unfold collect at h
    have main : ∀ vs, (match collect P n rs ls with | .ok m => Res.ok ((oneOrTup vs, x.st) :: m) | .bad c => .bad c) = .ok r → ∃ l ∈ x :: ls, q.2 = l.st := by
      intro vs h
      cases hc : collect P n rs ls with
      | bad c => simp [hc] at h
      | ok m =>
        simp only [hc, Res.ok.injEq] at h
        subst h
        rcases List.mem_cons.1 hq with rfl | hq
        · exact ⟨x, by simp, rfl⟩
        · obtain ⟨l, h1, h2⟩ := collect_mem hc q hq
          exact ⟨l, List.mem_cons_of_mem _ h1, h2⟩
    cases hx : x.x with
    | exit i => simp [hx] at h
    | normal =>
      simp only [hx] at h
      cases hv : retV P n x.t x.st rs with
      | none => simp [hv] at h
      | some vs => simp only [hv] at h; exact main vs h
    | ret =>
      simp only [hx] at h
      cases hv : retV P n x.t x.st rs with
      | none => simp [hv] at h
      | some vs => simp only [hv] at h; exact main vs h

theorem callBy_calm {H : Hooks} (hH : ∀ f h, H f = some h → pureF P f = false) (k : Nat) : Calm P (callBy P H (ev P H k)) := by
  intro f hf args st r h q hq
  unfold callBy at h
  cases hh : H f with
  | some g => rw [hH f g hh] at hf; cases hf
  | none =>
    rw [hh] at h
    dsimp only at h
    unfold pureF at hf
    cases hfn : P.funcs[f]? with
    | none => simp [hfn] at hf
    | some fn =>
      simp only [hfn] at h hf
      cases hb : fn.body with
      | none => simp [hb] at hf
      | some body =>
        simp only [hb] at h hf
        cases hfr : frame fn.ntmps args with
        | none => simp [hfr] at h
        | some t =>
          simp only [hfr] at h
          cases hev : ev P H k fn.ntmps body t st with
          | bad c => simp [hev] at h
          | ok ls =>
            simp only [hev] at h
            obtain ⟨l, hl, e⟩ := collect_mem h q hq
            obtain ⟨pc, e2⟩ := ev_calm k fn.ntmps body t st ls hf hev l hl
            exact ⟨pc, by rw [e, e2]⟩

theorem ev_sound (hm : P.follows .mixedOrders = true) (hn : Enters P) {H : Hooks} (hH : HooksOk P ρ H) : ∀ k : Nat, RunOk P ρ (ev P H k) ∧
    (∀ (n : Nat) (c : Code) (t : T V) (st : St) (a : Act) (w : World) (r : List Leaf) (Q : Exit → Act → World → Prop), Fr ρ n t a → Rep ρ st w → st.pc.holds ρ → ev P H k n (.loop c) t st = .ok r →
      (∀ l ∈ r, ∀ a' w', Fr ρ n l.t a' → Rep ρ l.st w' → l.st.pc.holds ρ → Q l.x.den a' w') → Code.rounds P c Q k a w)
  | 0 => by
    refine ⟨fun n c t st a w r Q _ _ _ h => ?_, fun n c t st a w r Q _ _ _ h => ?_⟩
    · unfold ev at h; cases h
    · unfold ev at h; cases h
  | k + 1 => by
    obtain ⟨ih, ihL⟩ := ev_sound hm hn hH k
    have loop : ∀ (n : Nat) (c : Code) (t : T V) (st : St) (a : Act) (w : World) (r : List Leaf) (Q : Exit → Act → World → Prop), Fr ρ n t a → Rep ρ st w → st.pc.holds ρ → ev P H (k + 1) n (.loop c) t st = .ok r →
        (∀ l ∈ r, ∀ a' w', Fr ρ n l.t a' → Rep ρ l.st w' → l.st.pc.holds ρ → Q l.x.den a' w') → Code.rounds P c Q (k + 1) a w := by
      intro n c t st a w r Q hf hr hp h hQ
      unfold ev at h
      dsimp only at h
      rw [rounds_succ]
      cases he : ev P H k n c t st with
      | bad x => simp [he] at h
      | ok ls =>
        simp only [he] at h
        refine ih n c t st a w ls _ hf hr hp he fun l hl a' w' hf' hr' hp' => ?_
        obtain ⟨r', h1, h2⟩ := flat_spec h l hl
        cases hx : l.x with
        | normal =>
          rw [hx] at h1
          exact ihL n c l.t l.st a' w' r' Q hf' hr' hp' h1 fun l' hl' => hQ l' (h2 l' hl')
        | exit i =>
          rw [hx] at h1
          simp only [Res.ok.injEq] at h1
          subst h1
          have := hQ l (h2 l (by simp)) a' w' hf' hr' hp'
          rw [hx] at this
          exact this
        | ret =>
          rw [hx] at h1
          simp only [Res.ok.injEq] at h1
          subst h1
          have := hQ l (h2 l (by simp)) a' w' hf' hr' hp'
          rw [hx] at this
          exact this
    refine ⟨fun n c t st a w r Q hf hr hp h hQ => ?_, loop⟩
    have one : ∀ x : Ex, Res.ok [(⟨x, t, st⟩ : Leaf)] = .ok r → Q x.den a w := by
      intro x hx
      simp only [Res.ok.injEq] at hx
      subst hx
      exact hQ ⟨x, t, st⟩ (by simp) a w hf hr hp
    cases c with
    | skip => unfold ev at h; exact wp_skip (one _ h)
    | label l => unfold ev at h; exact wp_label (one _ h)
    | exit id => unfold ev at h; exact wp_exit (one _ h)
    | ret => unfold ev at h; exact wp_ret (one _ h)
    | scope c =>
      unfold ev at h
      refine wp_scope_straight (ih n c t st a w r _ hf hr hp h fun l hl a' w' hf' hr' hp' => ?_)
      have := hQ l hl a' w' hf' hr' hp'
      cases hx : l.x <;> rw [hx] at this <;> exact this
    | seq x y =>
      unfold ev at h
      dsimp only at h
      cases he : ev P H k n x t st with
      | bad x => simp [he] at h
      | ok ls =>
        simp only [he] at h
        refine wp_seq (ih n x t st a w ls _ hf hr hp he fun l hl a' w' hf' hr' hp' => ?_)
        obtain ⟨r', h1, h2⟩ := flat_spec h l hl
        cases hx : l.x with
        | normal =>
          rw [hx] at h1
          exact ih n y l.t l.st a' w' r' Q hf' hr' hp' h1 fun l' hl' => hQ l' (h2 l' hl')
        | exit i =>
          rw [hx] at h1
          simp only [Res.ok.injEq] at h1
          subst h1
          have := hQ l (h2 l (by simp)) a' w' hf' hr' hp'
          rw [hx] at this
          exact this
        | ret =>
          rw [hx] at h1
          simp only [Res.ok.injEq] at h1
          subst h1
          have := hQ l (h2 l (by simp)) a' w' hf' hr' hp'
          rw [hx] at this
          exact this
    | cond x y z =>
      unfold ev at h
      dsimp only at h
      obtain ⟨e1, e2⟩ := hf.readsS hp x
      cases hx : rdS n t st.pc x with
      | bool e =>
        rw [hx] at e1 e2
        simp only [V.den] at e1
        simp only [V.ok] at e2
        simp only [hx] at h
        cases ht : st.pc.tell e with
        | some b =>
          have := PC.tell_spec hp e2 ht
          have hb : decide (e.den ρ ≠ 0) = b := by rw [Bool.eq_iff_iff, decide_eq_true_eq, this]
          rw [hb] at e1
          refine wp_cond e1 ?_
          cases b
          · simp only [ht] at h
            exact ih n z t st a w r Q hf hr hp h hQ
          · simp only [ht] at h
            exact ih n y t st a w r Q hf hr hp h hQ
        | none =>
          simp only [ht] at h
          obtain ⟨p, l', h1, h2, h3⟩ := forkOn_spec hp e2 h
          exact ih n (.cond x y z) t (st.know p) a w l' Q hf (hr.know p) h1 h2 fun l hl => hQ l (h3 l hl)
      | _ => simp [hx] at h
    | block id c =>
      unfold ev at h
      dsimp only at h
      cases he : ev P H k n c t st with
      | bad x => simp [he] at h
      | ok ls =>
        simp only [he, Res.ok.injEq] at h
        subst h
        refine wp_block (ih n c t st a w ls _ hf hr hp he fun l hl a' w' hf' hr' hp' => ?_)
        obtain ⟨s1, s2⟩ := offBlock_same id l
        exact offBlock_den id Q l a' w' (hQ (offBlock id l) (List.mem_map_of_mem hl) a' w' (by rw [s1]; exact hf') (by rw [s2]; exact hr') (by rw [s2]; exact hp'))
    | loop c => exact wp_loop_rounds (k + 1) (loop n c t st a w r Q hf hr hp h hQ)
    | region id ops draw =>
      unfold ev at h
      dsimp only at h
      have hc : CallOk P ρ (callBy P H (ev P H k)) := callBy_sound hn hH ih
      have hcm : Calm P (callBy P H (ev P H k)) := callBy_calm (fun f h hf => (hH f h hf).2) k
      have fin : ∀ ls : List (T V × St), Res.ok (ls.map fun p => (⟨.normal, p.1, p.2⟩ : Leaf)) = .ok r → ∀ p ∈ ls, ∀ a' w', Fr ρ n p.1 a' → Rep ρ p.2 w' → p.2.pc.holds ρ → Q .normal a' w' := by
        intro ls hls p hpm a' w' h1 h2 h3
        simp only [Res.ok.injEq] at hls
        subst hls
        exact hQ ⟨.normal, p.1, p.2⟩ (List.mem_map_of_mem hpm) a' w' h1 h2 h3
      cases draw with
      | false =>
        simp only [ift_false] at h
        cases he : runOps P (callBy P H (ev P H k)) n ops.toList 10000 ops.toList t st with
        | bad x => simp [he] at h
        | ok ls =>
          simp only [he] at h
          have := runOps_sound hc hcm (Q := Q) 10000 ops.toList t st a w ls hf hr hp he (fin ls h)
          refine wp_region_list ?_
          simpa using this
      | true =>
        simp only [ift_true] at h
        cases hd : drawOk n ops.toList with
        | none => simp [hd] at h
        | some m =>
          simp only [hd] at h
          cases he : drawRun P (callBy P H (ev P H k)) n ops.toList m t 200 st with
          | bad x => simp [he] at h
          | ok ls =>
            simp only [he] at h
            refine wp_region_any hm ?_
            have := drawRun_sound hc hcm (drawOk_spec hd) (Q := Q) 200 t st a w ls hf hr hp he (fin ls h)
            simpa using this
    | _ => unfold ev at h; cases h

theorem evCall_sound (hm : P.follows .mixedOrders = true) (hn : Enters P) {H : Hooks} (hH : HooksOk P ρ H) (k : Nat) : CallOk P ρ (evCall P H k) :=
  callBy_sound hn (fun _ _ h => by cases h) (ev_sound hm hn hH k).1

end
end Go.Proofs.YtmacjmofhaghbaaDoor.Sy
end

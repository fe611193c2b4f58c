/-
  A symbolic evaluator for the model's code: what values, blocks and states mean; how a state stands for a world.
-/
import Derived.Test.YtmacjmofhaghbaaDoorSyB
import Derived.Test.YtmacjmofhaghbaaDoorSyE
import Derived.WalkKit
noncomputable section
namespace Go.Proofs.YtmacjmofhaghbaaDoor.Sy
open Go

def B.no (ρ : Env) : B → Nat
  | .new i => ρ.addr i
  | .old i => ρ.blk i
  | .glob g => g

mutual
def V.den (ρ : Env) : V → Value
  | .lit v => v
  | .bool e => .bool (decide (e.den ρ ≠ 0))
  | .int k e => .int k (e.den ρ)
  | .ptr b o => .pointer (some ⟨b.no ρ, o, none⟩)
  | .dptr b base idx stride u => .pointer (some ⟨b.no ρ, base + (idx.den ρ).toNat * stride + u, none⟩)
  | .slice b o len cap => .slice (some ⟨b.no ρ, o, none⟩) (len.den ρ).toNat (cap.den ρ).toNat
  | .map b => .map (some (b.no ρ))
  | .func fn f c => .func fn (V.dens ρ f).toArray (V.dens ρ c).toArray
  | .agg l => .agg (V.dens ρ l).toArray
  | .tup l => .tuple (V.dens ρ l).toArray
  | .opt g v => if g.den ρ = 0 then undef else v.den ρ
  | .hole j => ρ.v j
  | .str es => .string ⟨(es.map fun e => UInt8.ofNat (e.den ρ).toNat).toArray⟩
def V.dens (ρ : Env) : List V → List Value
  | [] => []
  | v :: l => v.den ρ :: V.dens ρ l
end

mutual
def V.ok (ρ : Env) : V → Prop
  | .lit _ => True
  | .bool e => e.ok ρ
  | .int _ e => e.ok ρ
  | .ptr _ _ => True
  | .dptr _ _ idx _ _ => idx.ok ρ ∧ 0 ≤ idx.den ρ
  | .slice _ _ len cap => len.ok ρ ∧ cap.ok ρ ∧ 0 ≤ len.den ρ ∧ len.den ρ ≤ cap.den ρ
  | .map _ => True
  | .func _ f c => V.oks ρ f ∧ V.oks ρ c
  | .agg l => V.oks ρ l
  | .tup l => V.oks ρ l
  | .opt g v => g.ok ρ ∧ (g.den ρ ≠ 0 → v.ok ρ)
  | .hole _ => True
  | .str es => ∀ e ∈ es, e.ok ρ ∧ 0 ≤ e.den ρ ∧ e.den ρ ≤ 255
def V.oks (ρ : Env) : List V → Prop
  | [] => True
  | v :: l => v.ok ρ ∧ V.oks ρ l
end

theorem dens_map (ρ : Env) : ∀ l, V.dens ρ l = l.map (V.den ρ)
  | [] => by simp only [V.dens, List.map_nil]
  | v :: l => by simp only [V.dens, List.map_cons, dens_map ρ l]
theorem oks_iff (ρ : Env) : ∀ l, V.oks ρ l ↔ ∀ v ∈ l, v.ok ρ
  | [] => by simp [V.oks]
  | v :: l => by simp [V.oks, oks_iff ρ l]
theorem dens_length (ρ : Env) (l : List V) : (V.dens ρ l).length = l.length := by rw [dens_map, List.length_map]
theorem dens_append (ρ : Env) (l m : List V) : V.dens ρ (l ++ m) = V.dens ρ l ++ V.dens ρ m := by simp only [dens_map, List.map_append]
theorem oks_append {ρ : Env} {l m : List V} : V.oks ρ (l ++ m) ↔ V.oks ρ l ∧ V.oks ρ m := by
  simp only [oks_iff, List.mem_append]
  exact ⟨fun h => ⟨fun v hv => h v (.inl hv), fun v hv => h v (.inr hv)⟩, fun h v hv => hv.elim (h.1 v) (h.2 v)⟩
theorem den_un (ρ : Env) : V.un.den ρ = undef := by simp only [V.un, V.den]
theorem ok_un (ρ : Env) : V.un.ok ρ := by simp only [V.un, V.ok]

theorem strip_spec {ρ : Env} {pc : PC} (hp : pc.holds ρ) : ∀ (v : V), v.ok ρ → (v.strip pc).den ρ = v.den ρ ∧ (v.strip pc).ok ρ
  | .opt g v, h => by
    simp only [V.ok] at h
    unfold V.strip
    cases ht : pc.tell g with
    | none => exact ⟨rfl, by simp only [V.ok]; exact h⟩
    | some b =>
      have := PC.tell_spec hp h.1 ht
      cases b
      · have h0 : g.den ρ = 0 := by simpa using this
        simp only [V.den, h0, if_true]
        exact ⟨den_un ρ, ok_un ρ⟩
      · have h0 : g.den ρ ≠ 0 := by simpa using this
        simp only [V.den, h0, if_false]
        exact strip_spec hp v (h.2 h0)
  | .lit _, h | .bool _, h | .int _ _, h | .ptr _ _, h | .dptr _ _ _ _ _, h | .slice _ _ _ _, h | .map _, h | .func _ _ _, h | .agg _, h | .tup _, h | .hole _, h | .str _, h => by
    unfold V.strip; exact ⟨rfl, h⟩

def V.entry (ρ : Env) (p : V × V × Nat) : MapEntry := ⟨p.1.den ρ, p.2.1.den ρ, p.2.2⟩

/-- What a block stands for. -/
def Blk.fits (ρ : Env) (b : Blk) (o : Option Obj) : Prop :=
  match b with
  | .none => True
  | .cells cs e tot => ∃ rest : List Value, o = some (.cells (V.dens ρ cs ++ rest).toArray e (0, 0)) ∧ V.oks ρ cs ∧
      (match tot with | Option.none => rest = [] | some c => c.1.ok ρ ∧ (cs.length + rest.length : Nat) = (c.1.den ρ).toNat * c.2)
  | .map es clock => o = some (.map (es.map (V.entry ρ)).toArray clock) ∧ ∀ p ∈ es, p.1.ok ρ ∧ p.2.1.ok ρ

/-- The package variables stand as they are told. -/
def GlobsOk (ρ : Env) (G : List (Nat × List Value)) (olds : List (Nat × Blk)) (w : World) : Prop :=
  ∀ p ∈ G, p.1 < ρ.w.heap.size ∧ (∀ i ∈ olds.map (·.1), ρ.blk i ≠ p.1) ∧ ∃ e fr, w.heap[p.1]? = some (.cells p.2.toArray e fr)
theorem GlobsOk.nil {ρ : Env} {olds : List (Nat × Blk)} {w : World} : GlobsOk ρ [] olds w := fun _ h => by cases h
theorem GlobsOk.step {ρ : Env} {G : List (Nat × List Value)} {olds : List (Nat × Blk)} {w w' : World} (h : GlobsOk ρ G olds w)
    (hw : ∀ b, b < ρ.w.heap.size → (∀ i ∈ olds.map (·.1), ρ.blk i ≠ b) → w'.heap[b]? = w.heap[b]?) : GlobsOk ρ G olds w' := fun p hp => by
  obtain ⟨h1, h2, e, fr, h3⟩ := h p hp
  exact ⟨h1, h2, e, fr, by rw [hw p.1 h1 h2]; exact h3⟩

structure Rep (ρ : Env) (st : St) (w : World) : Prop where
  size : w.heap.size = ρ.addr st.nn
  line : ∀ i, ρ.addr (st.nn + i) = ρ.addr st.nn + i
  low : ∀ i, i < st.nn → ρ.w.heap.size ≤ ρ.addr i ∧ ρ.addr i < ρ.addr st.nn
  base : ρ.w.heap.size ≤ ρ.addr st.nn
  once : ∀ i j, i < st.nn → j < st.nn → i ≠ j → ρ.addr i ≠ ρ.addr j
  news : ∀ i, i < st.nn → (st.news.get .none i).fits ρ w.heap[ρ.addr i]?
  olds : ∀ i, (lookO i st.olds).fits ρ w.heap[ρ.blk i]?
  apart : ∀ i j, i ∈ st.olds.map (·.1) → j ∈ st.olds.map (·.1) → i ≠ j → ρ.blk i ≠ ρ.blk j
  below : ∀ i ∈ st.olds.map (·.1), ρ.blk i < ρ.w.heap.size
  kept : ∀ b, b < ρ.w.heap.size → (∀ i ∈ st.olds.map (·.1), ρ.blk i ≠ b) → w.heap[b]? = ρ.w.heap[b]?
  tape : w.tape = ρ.w.tape
  os : w.os = ρ.w.os
  output : w.output = ρ.w.output
  drawn : w.drawn = ρ.dr st.dr
  dline : ∀ i, ρ.dr (st.dr + i) = ρ.dr st.dr + i
  froz : ∀ a : Addr, w.frozen? a = ρ.w.frozen? a
  fresh : ∀ i, st.nn ≤ i → st.news.get .none i = .none
  globs : GlobsOk ρ st.globs st.olds w

theorem Blk.cold {ρ : Env} {x : Blk} {w : World} {a : Addr} (h : x.fits ρ w.heap[a.block]?) (hx : x ≠ .none) : w.frozen? a = false := by
  unfold World.frozen?
  cases x with
  | none => exact absurd rfl hx
  | cells cs e tot =>
    obtain ⟨rest, h1, _⟩ := h
    rw [h1]
    simp
  | map es clock => rw [h.1]

theorem World.frozen_at {w w' : World} {a : Addr} (h : w'.heap[a.block]? = w.heap[a.block]?) : w'.frozen? a = w.frozen? a := by
  unfold World.frozen?; rw [h]

theorem lookO_mem {i : Nat} : ∀ {l : List (Nat × Blk)}, lookO i l ≠ .none → i ∈ l.map (·.1)
  | [], h => absurd rfl h
  | p :: l, h => by
    unfold lookO at h
    cases hb : Nat.beq p.1 i
    · simp only [hb, ift_false] at h
      exact List.mem_cons_of_mem _ (lookO_mem h)
    · have := Nat.eq_of_beq_eq_true hb
      simp [this]
theorem setO_keys (i : Nat) (x : Blk) : ∀ l : List (Nat × Blk), (setO i x l).map (·.1) = l.map (·.1)
  | [] => rfl
  | p :: l => by
    unfold setO
    cases hb : Nat.beq p.1 i
    · simp only [ift_false, List.map_cons, setO_keys i x l]
    · have := Nat.eq_of_beq_eq_true hb
      simp [this]
theorem lookO_setO_ne {i j : Nat} (x : Blk) (h : i ≠ j) : ∀ l : List (Nat × Blk), lookO j (setO i x l) = lookO j l
  | [] => rfl
  | p :: l => by
    unfold setO
    cases hb : Nat.beq p.1 i
    · simp only [ift_false, lookO, lookO_setO_ne x h l]
    · have := Nat.eq_of_beq_eq_true hb
      have hj : Nat.beq i j = false := by rw [← Bool.not_eq_true, Nat.beq_eq]; exact h
      simp only [ift_true, lookO, hj, ift_false, this]
theorem lookO_setO_eq {i : Nat} (x : Blk) : ∀ {l : List (Nat × Blk)}, i ∈ l.map (·.1) → lookO i (setO i x l) = x
  | [], h => by simp at h
  | p :: l, h => by
    unfold setO
    cases hb : Nat.beq p.1 i
    · have hne : i ≠ p.1 := fun e => by rw [e, Nat.beq_refl] at hb; cases hb
      simp only [List.map_cons, List.mem_cons] at h
      simp only [ift_false, lookO, hb]
      exact lookO_setO_eq x (h.resolve_left hne)
    · simp only [ift_true, lookO, Nat.beq_refl]

theorem World.heap_alloc_lt (w : World) (o : Obj) {i : Nat} (h : i < w.heap.size) : (w.alloc o).heap[i]? = w.heap[i]? := by
  simp [World.alloc, -World.alloc_eq, Array.getElem?_push, Nat.ne_of_lt h]
theorem World.heap_alloc_eq (w : World) (o : Obj) : (w.alloc o).heap[w.heap.size]? = some o := by
  simp [World.alloc, -World.alloc_eq]

theorem den_ofCell (ρ : Env) (v : Value) : (ofCell v).den ρ = v ∧ (ofCell v).ok ρ := by
  cases v <;> simp only [ofCell, V.den, V.ok, E.den, E.ok, and_self]
  · rename_i b
    refine ⟨?_, b2e_ok _ _⟩
    cases b <;> simp [b2e, E.den]
  · rename_i s
    refine ⟨?_, fun e he => ?_⟩
    · obtain ⟨⟨l⟩⟩ := s
      have : l.map ((fun e => UInt8.ofNat (E.den ρ e).toNat) ∘ fun b : UInt8 => E.lit (b.toNat : Nat)) = l := by
        have h1 : ∀ b : UInt8, ((fun e => UInt8.ofNat (E.den ρ e).toNat) ∘ fun b : UInt8 => E.lit (b.toNat : Nat)) b = b := fun b => by
          simp [E.den]
        rw [List.map_congr_left fun b _ => h1 b, List.map_id']
      simp only [List.map_map, this]
    · obtain ⟨b, _, rfl⟩ := List.mem_map.1 he
      have := b.toNat_lt
      refine ⟨trivial, ?_, ?_⟩ <;> simp only [E.den] <;> omega

namespace Rep
variable {ρ : Env} {st : St} {w w' : World}

theorem blk (h : Rep ρ st w) (b : B) : (st.blk b).fits ρ w.heap[b.no ρ]? := by
  cases b with
  | new i =>
    simp only [St.blk, B.no]
    cases hi : Nat.blt i st.nn
    · trivial
    · exact h.news i (by simpa [Nat.blt_eq] using hi)
  | old i => exact h.olds i
  | glob g => trivial

theorem lookG_some {g : Nat} : ∀ {G : List (Nat × List Value)} {cs : List V} {e : TypeId} {tot : Option (E × Nat)}, lookG g G = .cells cs e tot → ∃ p ∈ G, p.1 = g ∧ cs = p.2.map ofCell
  | [], _, _, _, h => by cases h
  | p :: l, cs, e, tot, h => by
    unfold lookG at h
    cases hb : Nat.beq p.1 g
    · simp only [hb, ift_false] at h
      obtain ⟨q, h1, h2⟩ := lookG_some h
      exact ⟨q, List.mem_cons_of_mem _ h1, h2⟩
    · simp only [hb, ift_true, Blk.cells.injEq] at h
      exact ⟨p, by simp, Nat.eq_of_beq_eq_true hb, h.1.symm⟩

/-- What is read of a block stands there. -/
theorem look (h : Rep ρ st w) (b : B) {cs : List V} {e : TypeId} {tot : Option (E × Nat)} (hl : st.look b = .cells cs e tot) :
    ∃ (rest : List Value) (e' : TypeId) (fr : Nat × Nat), w.heap[b.no ρ]? = some (.cells (V.dens ρ cs ++ rest).toArray e' fr) ∧ V.oks ρ cs := by
  have plain : ∀ b, st.blk b = .cells cs e tot → ∃ (rest : List Value) (e' : TypeId) (fr : Nat × Nat), w.heap[b.no ρ]? = some (.cells (V.dens ρ cs ++ rest).toArray e' fr) ∧ V.oks ρ cs := by
    intro b hb
    have := h.blk b
    rw [hb] at this
    obtain ⟨rest, h1, h2, _⟩ := this
    exact ⟨rest, _, _, h1, h2⟩
  cases b with
  | new i => exact plain _ hl
  | old i => exact plain _ hl
  | glob g =>
    obtain ⟨p, hp, hg, rfl⟩ := lookG_some hl
    obtain ⟨_, _, e', fr, h3⟩ := h.globs p hp
    have hd : V.dens ρ (p.2.map ofCell) = p.2 := by
      rw [dens_map, List.map_map]
      have : (V.den ρ ∘ ofCell) = id := funext fun v => (den_ofCell ρ v).1
      rw [this, List.map_id]
    refine ⟨[], e', fr, ?_, ?_⟩
    · rw [hd, List.append_nil]; simp only [B.no]; rw [← hg]; exact h3
    · rw [oks_iff]
      intro v hv
      obtain ⟨x, _, rfl⟩ := List.mem_map.1 hv
      exact (den_ofCell ρ x).2

theorem know (h : Rep ρ st w) (pc : PC) : Rep ρ (st.know pc) w := ⟨h.size, h.line, h.low, h.base, h.once, h.news, h.olds, h.apart, h.below, h.kept, h.tape, h.os, h.output, h.drawn, h.dline, h.froz, h.fresh, h.globs⟩
theorem unknow {pc : PC} (h : Rep ρ (st.know pc) w) : Rep ρ st w := ⟨h.size, h.line, h.low, h.base, h.once, h.news, h.olds, h.apart, h.below, h.kept, h.tape, h.os, h.output, h.drawn, h.dline, h.froz, h.fresh, h.globs⟩

/-- Is it a block that the state knows? -/
theorem upd (h : Rep ρ st w) {b : B} {x : Blk} (hb : st.blk b ≠ .none) (hx0 : x ≠ .none) (hs : w'.heap.size = w.heap.size) (ho : ∀ k, k ≠ b.no ρ → w'.heap[k]? = w.heap[k]?)
    (hx : x.fits ρ w'.heap[b.no ρ]?) (ht : w'.tape = w.tape) (h1 : w'.os = w.os) (h2 : w'.output = w.output) (h3 : w'.drawn = w.drawn) : Rep ρ (st.upd b x) w' := by
  have hfz : ∀ a : Addr, w'.frozen? a = ρ.w.frozen? a := by
    intro a
    rw [← h.froz a]
    by_cases hab : a.block = b.no ρ
    · have e1 := Blk.cold (w := w') (a := a) (ρ := ρ) (by rw [hab]; exact hx) hx0
      have e2 := Blk.cold (w := w) (a := a) (ρ := ρ) (x := st.blk b) (by rw [hab]; exact h.blk b) hb
      rw [e1, e2]
    · exact World.frozen_at (ho _ hab)
  cases b with
  | new i =>
    have hi : i < st.nn := by
      simp only [St.blk] at hb
      cases hi : Nat.blt i st.nn
      · simp [hi] at hb
      · simpa [Nat.blt_eq] using hi
    refine ⟨by rw [hs]; exact h.size, h.line, h.low, h.base, h.once, fun j hj => ?_, fun j => ?_, h.apart, h.below, fun b hb hk => ?_, by rw [ht]; exact h.tape, by rw [h1]; exact h.os, by rw [h2]; exact h.output, by rw [h3]; exact h.drawn, h.dline, hfz, fun j hj => by simp only [St.upd] at hj ⊢; rw [T.get_set_ne _ _ _ _ _ (by omega)]; exact h.fresh j hj, h.globs.step fun b hb _ => ho _ (by have := h.low i hi; simp only [B.no]; omega)⟩
    · by_cases hij : i = j
      · subst hij
        simp only [St.upd]
        rcases T.get_set_or Blk.none x st.news i with e | e
        · rw [e]; exact hx
        · rw [e]; trivial
      · simp only [St.upd]
        have := h.once i j hi hj hij
        rw [T.get_set_ne _ _ _ _ _ hij, ho _ (by simp only [B.no]; omega)]
        exact h.news j hj
    · by_cases hn : lookO j st.olds = .none
      · simp only [St.upd]; rw [hn]; trivial
      · have := h.below j (lookO_mem hn)
        have := h.low i hi
        rw [ho _ (by simp only [B.no]; omega)]
        exact h.olds j
    · have := h.low i hi
      rw [ho _ (by simp only [B.no]; omega)]
      exact h.kept b hb hk
  | old i =>
    have hi : i ∈ st.olds.map (·.1) := lookO_mem hb
    have hlt := h.below i hi
    refine ⟨by rw [hs]; exact h.size, h.line, h.low, h.base, h.once, fun j hj => ?_, fun j => ?_, ?_, ?_, fun b hb hk => ?_, by rw [ht]; exact h.tape, by rw [h1]; exact h.os, by rw [h2]; exact h.output, by rw [h3]; exact h.drawn, h.dline, hfz, h.fresh, ?_⟩
    · have := h.low j hj
      rw [ho _ (by simp only [B.no]; omega)]
      exact h.news j hj
    · simp only [St.upd]
      by_cases hij : i = j
      · subst hij
        rw [lookO_setO_eq x hi]; exact hx
      · rw [lookO_setO_ne x hij]
        by_cases hn : lookO j st.olds = .none
        · rw [hn]; trivial
        · rw [ho _ (fun e => h.apart i j hi (lookO_mem hn) hij e.symm)]
          exact h.olds j
    · simp only [St.upd, setO_keys]; exact h.apart
    · simp only [St.upd, setO_keys]; exact h.below
    · simp only [St.upd, setO_keys] at hk
      rw [ho _ (fun e => hk i hi e.symm)]
      exact h.kept b hb hk
    · have := h.globs.step (w' := w') fun b hb hk => ho _ (fun e => hk i hi e.symm)
      intro p hp
      obtain ⟨q1, q2, q3⟩ := this p hp
      exact ⟨q1, by simp only [St.upd, setO_keys]; exact q2, q3⟩
  | glob g => exact absurd rfl hb

theorem next (h : Rep ρ st w) : ρ.addr (st.nn + 1) = ρ.addr st.nn + 1 := h.line 1
theorem lineS (h : Rep ρ st w) (i : Nat) : ρ.addr (st.nn + 1 + i) = ρ.addr (st.nn + 1) + i := by
  have h1 := h.line (1 + i)
  have h2 := h.line 1
  rw [← Nat.add_assoc] at h1
  omega

theorem alloc (h : Rep ρ st w) {x : Blk} {o : Obj} (hx : x.fits ρ (some o)) (hx0 : x ≠ .none) : Rep ρ (st.alloc x) (w.alloc o) := by
  have hfz : ∀ a : Addr, (w.alloc o).frozen? a = ρ.w.frozen? a := by
    intro a
    rw [← h.froz a]
    by_cases hab : a.block = w.heap.size
    · have e1 := Blk.cold (w := w.alloc o) (a := a) (ρ := ρ) (by rw [hab, World.heap_alloc_eq]; exact hx) hx0
      have e2 : w.frozen? a = false := by unfold World.frozen?; rw [hab]; simp
      rw [e1, e2]
    · by_cases hlt : a.block < w.heap.size
      · exact World.frozen_at (World.heap_alloc_lt w o hlt)
      · have e1 : (w.alloc o).heap[a.block]? = none := Array.getElem?_eq_none (by rw [World.size_alloc]; omega)
        have e2 : w.heap[a.block]? = none := Array.getElem?_eq_none (by omega)
        unfold World.frozen?; rw [e1, e2]
  have hnx := h.next
  have hb := h.base
  refine ⟨?_, h.lineS, fun i hi => ?_, ?_, fun i j hi hj hij => ?_, fun j hj => ?_, fun j => ?_, h.apart, h.below, fun b hb hk => ?_, h.tape, h.os, h.output, h.drawn, h.dline, hfz, fun j hj => by simp only [St.alloc] at hj ⊢; rw [T.get_set_ne _ _ _ _ _ (by omega)]; exact h.fresh j (by omega), h.globs.step fun b hb _ => World.heap_alloc_lt w o (by rw [h.size]; omega)⟩
  · simp only [World.size_alloc, h.size, St.alloc]; omega
  · simp only [St.alloc] at hi ⊢
    by_cases hin : i = st.nn
    · subst hin; omega
    · have := h.low i (by omega); omega
  · simp only [St.alloc]; omega
  · simp only [St.alloc] at hi hj
    by_cases hin : i = st.nn
    · subst hin
      have := h.low j (by omega); omega
    · by_cases hjn : j = st.nn
      · subst hjn
        have := h.low i (by omega); omega
      · exact h.once i j (by omega) (by omega) hij
  · simp only [St.alloc] at hj ⊢
    by_cases hjn : j = st.nn
    · subst hjn
      rw [← h.size, World.heap_alloc_eq]
      rcases T.get_set_or Blk.none x st.news st.nn with e | e
      · rw [e]; exact hx
      · rw [e]; trivial
    · have := h.low j (by omega)
      rw [T.get_set_ne _ _ _ _ _ (Ne.symm hjn), World.heap_alloc_lt w o (by rw [h.size]; omega)]
      exact h.news j (by omega)
  · simp only [St.alloc]
    by_cases hn : lookO j st.olds = .none
    · rw [hn]; trivial
    · have := h.below j (lookO_mem hn)
      rw [World.heap_alloc_lt w o (by rw [h.size]; omega)]
      exact h.olds j
  · rw [World.heap_alloc_lt w o (by rw [h.size]; omega)]
    exact h.kept b hb hk

theorem draw (h : Rep ρ st w) : Rep ρ { st with dr := st.dr + 1 } { w with drawn := w.drawn + 1 } :=
  ⟨h.size, h.line, h.low, h.base, h.once, h.news, h.olds, h.apart, h.below, h.kept, h.tape, h.os, h.output, by
    have := h.dline 1
    simp only [h.drawn]; omega, fun i => by
    have h1 := h.dline (1 + i)
    have h2 := h.dline 1
    rw [← Nat.add_assoc] at h1
    show ρ.dr (st.dr + 1 + i) = ρ.dr (st.dr + 1) + i
    omega, h.froz, h.fresh, h.globs⟩

theorem allocD (h : Rep ρ st w) {x : Blk} {o : Obj} (hx : x.fits ρ (some o)) (hx0 : x ≠ .none) : Rep ρ (st.allocD x) (({ w with drawn := w.drawn + 1 } : World).alloc o) :=
  (h.draw).alloc hx hx0

end Rep

/-- A frame's temporaries stand so. -/
structure Fr (ρ : Env) (n : Nat) (t : T V) (a : Act) : Prop where
  defers : a.defers = []
  size : a.tmps.size = n
  full : ∃ k, T.Full k t ∧ n ≤ 2 ^ k - 1
  val : ∀ i, i < n → a.tmps[i]? = some ((t.get .un i).den ρ)
  ok : ∀ i, (t.get .un i).ok ρ

theorem den_ofValue (ρ : Env) (v : Value) : (ofValue v).den ρ = v ∧ (ofValue v).ok ρ := by
  cases v
  case agg cs =>
    simp only [ofValue, V.den, V.ok]
    constructor
    · rw [dens_map, List.map_map]
      have : (V.den ρ ∘ ofCell) = id := funext fun v => (den_ofCell ρ v).1
      rw [this, List.map_id]
    · rw [oks_iff]
      intro v hv
      obtain ⟨u, _, rfl⟩ := List.mem_map.1 hv
      exact (den_ofCell ρ u).2
  case func fn f c =>
    simp only [ofValue]
    split
    · rename_i h1 h2
      have e1 : f = #[] := by rw [← Array.toArray_toList (xs := f), h1]
      have e2 : c = #[] := by rw [← Array.toArray_toList (xs := c), h2]
      subst e1; subst e2
      simp [V.den, V.dens, V.ok, V.oks]
    · simp [V.den, V.ok]
  all_goals (simp only [ofValue]; exact den_ofCell ρ _)

/-- Operands read so. -/
def Reads (ρ : Env) (e : Operand → Value) (rd : Rd) : Prop := ∀ x, e x = (rd x).den ρ ∧ (rd x).ok ρ

end Go.Proofs.YtmacjmofhaghbaaDoor.Sy
end

/-
  'Rows.SyndromeWordsCardSaid': a syndrome as words and as a text, or refused, as the document says. Conditions: none but those of the row itself.
  By a symbolic evaluator whose soundness is proved in the texts 'YtmacjmofhaghbaaDoorSy..'; the kernel runs it on the law's code.
-/
import Derived.Test.YtmacjmofhaghbaaDoorRows
import Derived.Test.YtmacjmofhaghbaaDoorSyZ
import Derived.Test.YtmacjmofhaghbaaDoorFits
import Derived.Test.YtmacjmofhaghbaaDoorSyndromeWordsD
import Derived.Test.YtmacjmofhaghbaaDoorSyndromeWordsP0
import Derived.Test.YtmacjmofhaghbaaDoorSyndromeWordsP1
import Derived.Test.YtmacjmofhaghbaaDoorSyndromeWordsP2
import Derived.Test.YtmacjmofhaghbaaDoorSyndromeWordsP3
import Derived.WalkKit
import Derived.ProofKit
import Derived.OpenShut
import Derived.LaidMore
import Derived.Stop.Joined
import Derived.SevenTiedAt
import Derived.Test.YtmacjmofhaghbaaDoorTie
import Derived.Test.YtmacjmofhaghbaaDoorCards
namespace Go.Proofs.YtmacjmofhaghbaaDoor.syndromeWords
open Go.ChangeShapes Go.WideShapes Go.ChangeAt Go.RowKit

theorem own : ownKnob Tryd.prog.godebug = none := by kernel_rfl
theorem mixed : Tryd.prog.follows .mixedOrders = true := by kernel_rfl
theorem entered : Sy.Enters Tryd.prog := Sy.enters_of (by kernel_rfl)
theorem found : ∀ j, j ≤ tests.length → Sy.lawPart Tryd.prog laid (Sy.lit1s laid base lits) cuts 400 3 [25] tests j = true := fun j hj => match j, hj with
  | 0, _ => part0
  | 1, _ => part1
  | 2, _ => part2
  | 3, _ => part3
  | 4, _ => part4
  | 5, _ => part5
  | 6, _ => part6
  | 7, _ => part7
  | 8, _ => part8
  | 9, _ => part9
  | 10, _ => part10
  | 11, _ => part11
  | 12, _ => part12
  | 13, _ => part13
  | 14, _ => part14
  | 15, _ => part15
  | n + 16, h => absurd h (by have : tests.length = 15 := rfl; omega)

theorem listed_met : ∀ s ∈ listed, s.met Tryd.prog := by
  intro s hs
  simp only [listed, List.mem_cons, List.not_mem_nil, or_false] at hs
  rcases hs with rfl | rfl | rfl
  · exact ⟨by kernel_rfl, by kernel_rfl, Tryd.underlying74, Tryd.underlying5, by kernel_rfl, by kernel_rfl⟩
  · exact ⟨by kernel_rfl, by kernel_rfl, Tryd.underlying75, Tryd.underlying5, by kernel_rfl, by kernel_rfl⟩
  · exact ⟨by kernel_rfl, by kernel_rfl, Tryd.underlying69, Tryd.underlying23, by kernel_rfl, by kernel_rfl⟩
/-- The door's own heap meets the condition. -/
theorem door_met (os : Os) (args : Array Value) : laidMetH Tryd.prog Rows.syndromeWordsRow.laid ((World.doorLaid Tryd.prog 400 os).forCall (fun _ _ => 0) ⟨#[], args, []⟩).memory :=
  laidMetH_of_parts3 (fuel := 8) (laidMet_of_run' 8 (by kernel_rfl) (by kernel_rfl)) (by kernel_rfl) (by kernel_rfl)
theorem of_laid {W : World} (h : laidMetH Tryd.prog Rows.syndromeWordsRow.laid W) : Sy.Laid laid W :=
  Sy.laid_all listed listed_met (show laidMetH Tryd.prog (listed.map fun s => (s.name, Sy.numsD s.k s.l)) W from h)

set_option maxRecDepth 100000 in
theorem lifted (os : Os) (started : os.Started) (H : Type) (enc : TypeId × Value → H) :
    ReturnsInHanded {} Tryd.checked os 3 .any (fun w args => (Rows.syndromeWordsSpec.pre enc Tryd.prog Tryd.f3 [] false w args ∧ laidMetH Tryd.prog Rows.syndromeWordsRow.laid w) ∧ sizedMet enc Tryd.prog Tryd.f3 (OpenSpec.ofChange Rows.syndromeWordsSpec) false w args)
      (Rows.syndromeWordsSpec.post enc Tryd.prog Tryd.f3 false true false false) := by
  refine returnsInHanded_of_change_and (C := Tryd.checked) (X := fun w _ => laidMetH Tryd.prog Rows.syndromeWordsRow.laid w) (fun _ _ _ hh h => h.of_heap hh) own started (by kernel_rfl) Tryd.func3
    (ChangeSpec.witness_shaped (enc := enc) (C := Tryd.checked) (os := os) (X := fun w _ => laidMetH Tryd.prog Rows.syndromeWordsRow.laid w) false (World.doorLaid Tryd.prog 400 os) #[.agg #[.int .i8 0, .bool false, .int .i8 0, .int .i8 0, .int .u64 0]] 8 rfl (World.shaped_of_RefB (by kernel_rfl) (by kernel_rfl)) (by kernel_rfl) (by kernel_rfl) (by kernel_rfl) (door_met os _)) ?_
  intro W base args ds gs before hval0 hW _ _ hL _
  have hval : ∀ (j : Nat) (t : TypeId) (v : Value), Tryd.f3.params[j]? = some t → args[j]? = some v → Value.okWide Tryd.prog W .any base t v := hval0
  have hW' := hW
  obtain ⟨p, q, hA0, hV, rfl, hfz, hnd⟩ := hW
  have hA : DataW.TrodAll enc Tryd.prog W 0 (fun _ => true) true Tryd.f3.params.toList args.toList ds p := hA0
  obtain ⟨rfl, rfl⟩ := trodVars_none hV
  have hparams : Tryd.f3.params.toList = [25] := by rw [Tryd.params3]
  obtain ⟨rfl, hsame, hcall⟩ := Sy.law_parts mixed entered (Sy.lit1s_ok mixed entered (base_ok entered) told) found (of_laid hL) (by rw [← hparams]; exact hA) (fun j t v ht hv => hval j t v (by rw [← hparams] at ht; simpa using ht) hv)
  rw [← hparams] at hsame
  have hlen : ds.length = 1 := (Sy.trodAll_len hA).trans (by rw [hparams]; rfl)
  match ds, hlen with
  | [d1], _ =>
    refine hcall.mono fun e W' ⟨he, hg⟩ => ?_
    subst he
    exact ⟨_, rfl, post_of_same (pa := []) (pv := []) hW' (fun _ _ _ => (trodAll_cons_mk (shut_bool Tryd.underlying4 _) trodAll_mk0)) (fun sp _ => hsame _ _ _ _) (fun _ _ => rfl) rfl
      (hg.frame _) hg.2.1 (ok_one (by kernel_rfl) rfl (okWide_bool_mk Tryd.underlying4 _))⟩

theorem over : Rows.syndromeWordsRow.holds Tryd.pinned (OpenSpec.ofChange Rows.syndromeWordsSpec) :=
  OpenClaim.holds_of_wide 3 Tryd.f3 rfl rfl rfl rfl rfl rfl rfl ⟨rfl, rfl, rfl, rfl, rfl⟩ rfl rfl rfl rfl rfl (by kernel_rfl) Tryd.func3 (by kernel_rfl)
    (of_decide_eq_true (by kernel_rfl)) (by unfold Func.isWrapper; first | (rw [if_pos (by decide +kernel)]; kernel_rfl) | (rw [if_neg (by decide +kernel)]; exact ⟨rfl, rfl⟩))
    (fun os started H enc _ => lifted os started H enc)

theorem holds : Rows.SyndromeWordsSaid := over
theorem card : Rows.SyndromeWordsCardSaid :=
  Claim7.holds_tied_plain_at .later [] [.data, .data, .data] true (true, "eaeadbfe28fd00e3bc4de86f7134799d06d700204ee340ab9cb7f9ca846c4daf") false
    holds (fun _ h => by cases h) (by kernel_rfl) (fun _ h => by cases h) syndromeWords_row_tie rfl ⟨rfl, rfl⟩ (by kernel_rfl) rfl
    (fun f fn hf hfn => by
      obtain rfl : f = 3 := Option.some.inj ((show Tryd.prog.funcNamed "tenement/tenementlaw04.SyndromeWords" = some 3 by kernel_rfl).symm.trans hf) |>.symm
      obtain rfl : fn = Tryd.f3 := (Option.some.inj (Tryd.func3.symm.trans hfn)).symm
      exact ⟨by kernel_rfl, fun j t ht => by
        rw [Tryd.params3] at ht
        have hm : t ∈ [25] := by simpa using Array.mem_of_getElem? ht
        have hall : ([25].all fun u => !Tryd.prog.wantsStandIn u) = true := by kernel_rfl
        exact (show Tryd.prog.wantsStandIn t = false by simpa using List.all_eq_true.1 hall t hm)⟩)
    (by kernel_rfl)
#print axioms card
end Go.Proofs.YtmacjmofhaghbaaDoor.syndromeWords

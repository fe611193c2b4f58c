/-
  'Rows.FramesNilCardSaid': no pool has nothing, and three frames are as the document says. Conditions: none but those of the row itself.
  By a symbolic evaluator whose soundness is proved in the texts 'YtdhligmccijpdaaDoorSy..'; the kernel runs it on the law's code.
-/
import Derived.Test.YtdhligmccijpdaaDoorRows
import Derived.Test.YtdhligmccijpdaaDoorSyY
import Derived.Test.YtdhligmccijpdaaDoorFramesNilD
import Derived.Test.YtdhligmccijpdaaDoorFramesNilP0
import Derived.WalkKit
import Derived.ProofKit
import Derived.OpenShut
import Derived.LaidMore
import Derived.Stop.Joined
import Derived.SevenTiedAt
import Derived.Test.YtdhligmccijpdaaDoorTie
import Derived.Test.YtdhligmccijpdaaDoorCards
namespace Go.Proofs.YtdhligmccijpdaaDoor.framesNil
open Go.ChangeShapes Go.WideShapes Go.ChangeAt Go.RowKit

theorem own : ownKnob Tryd.prog.godebug = none := by kernel_rfl
theorem mixed : Tryd.prog.follows .mixedOrders = true := by kernel_rfl
theorem entered : Sy.Enters Tryd.prog := Sy.enters_of (by kernel_rfl)
theorem found : ∀ j, j ≤ tests.length → Sy.lawPart Tryd.prog laid (Sy.lit1s laid (Sy.memos Tryd.prog 400 []) lits) cuts 400 5 [3] tests j = true := fun j hj => match j, hj with
  | 0, _ => part0
  | n + 1, h => absurd h (by have : tests.length = 0 := rfl; omega)

theorem gNo : Tryd.prog.globalNamed "math/bits.deBruijn64tab" = some 0 := by kernel_rfl
theorem gType : (Tryd.prog.globals[0]?).map (·.type) = some 52 := by kernel_rfl
/-- The door's own heap meets the condition. -/
theorem door_met (os : Os) (args : Array Value) : laidMetH Tryd.prog Rows.framesNilRow.laid ((World.doorLaid Tryd.prog 400 os).forCall (fun _ _ => 0) ⟨#[], args, []⟩).memory :=
  laidMetH_of_parts3 (fuel := 8) (laidMet_of_run' 8 (by kernel_rfl) (by kernel_rfl)) (by kernel_rfl) (by kernel_rfl)
theorem of_laid {W : World} (h : laidMetH Tryd.prog Rows.framesNilRow.laid W) : Sy.Laid laid W :=
  Sy.laid_bytes (l := tab) (t := 52) (e := 5) (show laidMetH Tryd.prog [("math/bits.deBruijn64tab", Sy.bytesD tab)] W from h) gNo gType Tryd.underlying52 Tryd.underlying5 (by kernel_rfl) (by kernel_rfl)

set_option maxRecDepth 100000 in
theorem lifted (os : Os) (started : os.Started) (H : Type) (enc : TypeId × Value → H) :
    ReturnsInHanded {} Tryd.checked os 5 .any (fun w args => (Rows.framesNilSpec.pre enc Tryd.prog Tryd.f5 [] false w args ∧ laidMetH Tryd.prog Rows.framesNilRow.laid w) ∧ sizedMet enc Tryd.prog Tryd.f5 (OpenSpec.ofChange Rows.framesNilSpec) false w args)
      (Rows.framesNilSpec.post enc Tryd.prog Tryd.f5 false true false false) := by
  refine returnsInHanded_of_change_and (C := Tryd.checked) (X := fun w _ => laidMetH Tryd.prog Rows.framesNilRow.laid w) (fun _ _ _ hh h => h.of_heap hh) own started (by kernel_rfl) Tryd.func5
    (ChangeSpec.witness_shaped (enc := enc) (C := Tryd.checked) (os := os) (X := fun w _ => laidMetH Tryd.prog Rows.framesNilRow.laid w) false (World.doorLaid Tryd.prog 400 os) #[.int .i64 0] 8 rfl (World.shaped_of_RefB (by kernel_rfl) (by kernel_rfl)) (by kernel_rfl) (by kernel_rfl) (by kernel_rfl) (door_met os _)) ?_
  intro W base args ds gs before hval0 hW _ _ hL _
  have hval : ∀ (j : Nat) (t : TypeId) (v : Value), Tryd.f5.params[j]? = some t → args[j]? = some v → Value.okWide Tryd.prog W .any base t v := hval0
  have hW' := hW
  obtain ⟨p, q, hA0, hV, rfl, hfz, hnd⟩ := hW
  have hA : DataW.TrodAll enc Tryd.prog W 0 (fun _ => true) true Tryd.f5.params.toList args.toList ds p := hA0
  obtain ⟨rfl, rfl⟩ := trodVars_none hV
  have hparams : Tryd.f5.params.toList = [3] := by rw [Tryd.params5]
  obtain ⟨rfl, hsame, hcall⟩ := Sy.law_parts mixed entered (Sy.lit1s_ok mixed entered (Sy.memos_ok mixed entered 400 []) told) found (of_laid hL) (by rw [← hparams]; exact hA) (fun j t v ht hv => hval j t v (by rw [← hparams] at ht; simpa using ht) hv)
  rw [← hparams] at hsame
  have hlen : ds.length = 1 := (Sy.trodAll_len hA).trans (by rw [hparams]; rfl)
  match ds, hlen with
  | [d1], _ =>
    refine hcall.mono fun e W' ⟨he, hg⟩ => ?_
    subst he
    exact ⟨_, rfl, post_of_same (pa := []) (pv := []) hW' (fun _ _ _ => (trodAll_cons_mk (shut_bool Tryd.underlying4 _) trodAll_mk0)) (fun sp _ => hsame _ _ _ _) (fun _ _ => rfl) rfl
      (hg.frame _) hg.2.1 (ok_one (by kernel_rfl) rfl (okWide_bool_mk Tryd.underlying4 _))⟩

theorem over : Rows.framesNilRow.holds Tryd.pinned (OpenSpec.ofChange Rows.framesNilSpec) :=
  OpenClaim.holds_of_wide 5 Tryd.f5 rfl rfl rfl rfl rfl rfl rfl ⟨rfl, rfl, rfl, rfl, rfl⟩ rfl rfl rfl rfl rfl (by kernel_rfl) Tryd.func5 (by kernel_rfl)
    (of_decide_eq_true (by kernel_rfl)) (by unfold Func.isWrapper; first | (rw [if_pos (by decide +kernel)]; kernel_rfl) | (rw [if_neg (by decide +kernel)]; exact ⟨rfl, rfl⟩))
    (fun os started H enc _ => lifted os started H enc)

theorem holds : Rows.FramesNilSaid := over
theorem card : Rows.FramesNilCardSaid :=
  Claim7.holds_tied_plain_at .later [] [.data] true (true, "e385c66dda0fcfe2fb3f1c9cc6bc8443d53156fd3b0faf02d1bfbab1b2c23f63") false
    holds (fun _ h => by cases h) (by kernel_rfl) (fun _ h => by cases h) framesNil_row_tie rfl ⟨rfl, rfl⟩ (by kernel_rfl) rfl
    (fun f fn hf hfn => by
      obtain rfl : f = 5 := Option.some.inj ((show Tryd.prog.funcNamed "tenement/tenementlaw15.FramesNil" = some 5 by kernel_rfl).symm.trans hf) |>.symm
      obtain rfl : fn = Tryd.f5 := (Option.some.inj (Tryd.func5.symm.trans hfn)).symm
      exact ⟨by kernel_rfl, fun j t ht => by
        rw [Tryd.params5] at ht
        have hm : t ∈ [3] := by simpa using Array.mem_of_getElem? ht
        have hall : ([3].all fun u => !Tryd.prog.wantsStandIn u) = true := by kernel_rfl
        exact (show Tryd.prog.wantsStandIn t = false by simpa using List.all_eq_true.1 hall t hm)⟩)
    (by kernel_rfl)
#print axioms card
end Go.Proofs.YtdhligmccijpdaaDoor.framesNil

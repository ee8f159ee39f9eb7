/-
  CmdQuotes: any text, quoted, is as the document says: the card, for every input, no condition.
-/
import Derived.Test.YtocecgdblhjojaaGreatDoorAlive
import Derived.Test.YtocecgdblhjojaaGreatDoorPureQuotes
import Derived.Test.YtocecgdblhjojaaGreatDoorCards
import Derived.Test.YtocecgdblhjojaaGreatDoorTie
import Derived.ShutString
import Derived.SizedLaws
namespace Go.Proofs.YtocecgdblhjojaaGreatDoor.cmdQuotes
open Go.Sim Go.RowKit

theorem contract (H : Type) (enc : TypeId × Value → H) (W : World) (base : Nat) (args : Array Value) (ds gs : List (DataW H)) (before : List MemPlace)
    (hval : ∀ (j : Nat) t v, Tryz.f5.params[j]? = some t → args[j]? = some v → Value.okWide Tryz.prog W .any base t v)
    (hW : DataW.Whole enc Tryz.prog Tryz.f5.params.toList Rows.cmdQuotesSpec.vars false W args.toList ds gs before)
    (hsz : (DataW.weightsEach Tryz.prog (Tryz.f5.params.toList ++ (OpenSpec.ofChange Rows.cmdQuotesSpec).bare.plain.varTypes Tryz.prog) (ds ++ gs)).all (· ≤ reachBytes) = true) (_hL : laidMetH Tryz.prog Rows.cmdQuotesRow.laid W) :
    Calls Tryz.prog 5 args W fun e W' => ∃ v, e = .returned v ∧ Rows.cmdQuotesSpec.post enc Tryz.prog Tryz.f5 false true false false W args v W' :=
  contract_of_true laidOut (by kernel_rfl) (by kernel_rfl) bool4 rfl (fun ds h => by
    rw [Tryz.params5] at h
    match ds, h with
    | [d], _ => rfl) hW (by
    obtain ⟨p, q, hA0, hV, -, -, -⟩ := hW
    have hA : DataW.TrodAll enc Tryz.prog W 0 (fun _ => true) true Tryz.f5.params.toList args.toList ds p := hA0
    rw [Tryz.params5] at hA hval hsz
    obtain ⟨x, d, hargs, rfl, h0⟩ := ChangeShapes.trodAll_one hA
    obtain rfl : args = #[x] := by cases args; simp_all
    obtain ⟨s, rfl, rfl, -, -⟩ := string_at (j := 0) (@hval) rfl rfl Tryz.underlying9 h0
    have z := sized_string hsz (j := 0) (t := 9) rfl rfl
    rw [Array.length_toList] at z
    exact PQuotes.haversacklaw14_CmdQuotes.walk Pure.CmdQuotes s W z)

theorem reads (os : Os) {H : Type} (enc : TypeId × Value → H) : ∃ places, DataW.whole enc Tryz.prog ((laidWorld os).forCall (fun _ _ => 0) ⟨#[], #[.string ⟨#[]⟩], []⟩).memory Tryz.f5.params.toList Rows.cmdQuotesSpec.vars false #[.string ⟨#[]⟩].toList 8 = some ([.lit (.string [])], [], places) :=
  ⟨[], by kernel_rfl⟩
theorem laidMet (os : Os) (args : Array Value) : laidMet Tryz.prog Rows.cmdQuotesRow.laid ((laidWorld os).forCall (fun _ _ => 0) ⟨#[], args, []⟩).memory :=
  laidMet_of_run3 8 (by kernel_rfl) (by kernel_rfl) (by kernel_rfl)
set_option maxRecDepth 100000 in
theorem lifted (os : Os) (started : os.Started) (H : Type) (enc : TypeId × Value → H) (F : Stop.Interp) :
    ReturnsInHanded {} Tryz.checked os 5 .any ((OpenSpec.ofChange Rows.cmdQuotesSpec).preRow enc Tryz.prog Tryz.f5 Rows.cmdQuotesRow.domain false Rows.cmdQuotesRow.laid) (((OpenSpec.ofChange Rows.cmdQuotesSpec).at F).post enc Tryz.prog Tryz.f5 false true false false) := by
  obtain ⟨places, hx⟩ := reads os enc
  refine returnsInHanded_of_row (C := Tryz.checked) (s := OpenSpec.ofChange Rows.cmdQuotesSpec) ownNone started (by kernel_rfl) Tryz.func5
    (witness_row_atRef (enc := enc) (C := Tryz.checked) false (laidWorld os) #[.string ⟨#[]⟩] rfl (by kernel_rfl) (by kernel_rfl) (by kernel_rfl)
      (OpenSpec.preRow_of_cond 8 hx (by kernel_rfl) (fun k hk => by cases hk) (by kernel_rfl) (laidMet os _))) ?_
  intro W base args ds gs before hval hW _ _ hsz hL _ _
  exact contract H enc W base args ds gs before @hval hW hsz hL
theorem said : Rows.CmdQuotesSaid :=
  OpenClaim.holds_of_cond 5 Tryz.f5 rfl rfl rfl rfl rfl rfl rfl ⟨rfl, rfl, rfl, rfl, rfl⟩ rfl rfl rfl rfl rfl (by kernel_rfl) Tryz.func5 (by kernel_rfl)
    (of_decide_eq_true (by kernel_rfl)) (by unfold Func.isWrapper; first | (rw [if_pos (by decide +kernel)]; kernel_rfl) | (rw [if_neg (by decide +kernel)]; exact ⟨rfl, rfl⟩))
    (fun os started H enc _ F => by rw [OpenClaim.pre_eq_preRow]; exact lifted os started H enc F)
theorem noStandIn : ((Tryz.f5.params.toList.all fun t => !Tryz.prog.wantsStandIn t) = true) := by kernel_rfl
theorem plain (f : FuncId) (fn : Func) (hf : Tryz.pinned.checked.prog.funcNamed "haversack/haversacklaw14.CmdQuotes" = some f) (hfn : Tryz.pinned.checked.prog.funcs[f]? = some fn) :
    true = Tryz.pinned.checked.prog.looks [] ∧ ∀ (j : Nat) t, fn.params[j]? = some t → Tryz.pinned.checked.prog.wantsStandIn t = false := by
  obtain rfl : f = 5 := Option.some.inj ((show Tryz.prog.funcNamed "haversack/haversacklaw14.CmdQuotes" = some 5 by kernel_rfl).symm.trans hf) |>.symm
  obtain rfl : fn = Tryz.f5 := (Option.some.inj (Tryz.func5.symm.trans hfn)).symm
  refine ⟨by kernel_rfl, fun j t ht => ?_⟩
  have := List.all_eq_true.1 noStandIn t (by rw [Array.mem_toList_iff]; exact Array.mem_of_getElem? ht)
  rw [Bool.not_eq_true'] at this
  exact this

/-- THE CARD. -/
theorem card : Rows.CmdQuotesCardSaid :=
  Claim7.holds_tied_plain_at .later [] _ _ _ _ said (fun _ h => by cases h) (by kernel_rfl) (fun _ h => by cases h) cmdQuotes_row_tie rfl ⟨rfl, rfl⟩ (by kernel_rfl) rfl plain (by kernel_rfl)
end Go.Proofs.YtocecgdblhjojaaGreatDoor.cmdQuotes

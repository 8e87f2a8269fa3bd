/- MerkleProofsAreAccepted returns true for every input and leaves its arguments alone: the statement. Conditions: none. -/
import Derived.Test.YtnfdepafmmibaaaDoorV11
import Derived.Test.YtnfdepafmmibaaaDoorCards
import Derived.Test.YtnfdepafmmibaaaDoorTie
import Derived.Deep.DeepHandedRow
set_option linter.unusedVariables false
set_option linter.unusedSimpArgs false
set_option maxRecDepth 100000
namespace Go.Proofs.YtnfdepafmmibaaaDoor
open Go Go.ChangeShapes Go.WideShapes Go.RowKit
section
variable {H : Type} {enc : TypeId × Value → H}
theorem contract5 (W : World) (base : Nat) (args : Array Value) (ds gs : List (DataW H)) (before : List MemPlace)
    (hval : ∀ (j : Nat) t v, Tryd.f5.params[j]? = some t → args[j]? = some v → Value.okWide Tryd.prog W .any base t v)
    (hW : DataW.Whole enc Tryd.prog Tryd.f5.params.toList Rows.merkleProofsAreAcceptedSpec.vars false W args.toList ds gs before) (hL : laidMetH Tryd.prog laidList W) :
    Calls Tryd.prog 5 args W fun e W' => ∃ v, e = .returned v ∧ Rows.merkleProofsAreAcceptedSpec.post enc Tryd.prog Tryd.f5 false true false false W args v W' := by
  have hW' := hW
  obtain ⟨p, q, hA, hV, rfl, hfz, hnd⟩ := hW
  rw [Tryd.params5] at hA hval
  obtain ⟨rfl, rfl⟩ := trodVars_none hV
  generalize hargs : args.toList = ar at hA
  obtain ⟨v0, r0, d0, ds0, p0, q0, rfl, rfl, rfl, h0, hA⟩ := trodAll_cons hA
  obtain ⟨v1, r1, d1, ds1, p1, q1, rfl, rfl, rfl, h1, hA⟩ := trodAll_cons hA
  obtain ⟨v2, r2, d2, ds2, p2, q2, rfl, rfl, rfl, h2, hA⟩ := trodAll_cons hA
  obtain ⟨v3, r3, d3, ds3, p3, q3, rfl, rfl, rfl, h3, hA⟩ := trodAll_cons hA
  obtain ⟨v4, r4, d4, ds4, p4, q4, rfl, rfl, rfl, h4, hA⟩ := trodAll_cons hA
  obtain ⟨rfl, rfl, rfl⟩ := trodAll_nil hA
  obtain rfl : args = #[v0, v1, v2, v3, v4] := by apply Array.toList_inj.1; exact hargs
  obtain ⟨x0, w0⟩ := read_digs Tryd.underlying22 Tryd.underlying31 Tryd.underlying5 (C5 (zb := true)) (C31 (zb := true)) (hval 0 22 v0 rfl rfl) h0
  obtain ⟨x1, rfl, rfl, rfl, z1⟩ := open_int Tryd.underlying5 (hval 1 5 v1 rfl rfl) h1
  have b1 := wf_u8 z1
  obtain ⟨x2, rfl, rfl, rfl, z2⟩ := open_int Tryd.underlying5 (hval 2 5 v2 rfl rfl) h2
  have b2 := wf_u8 z2
  obtain ⟨x3, rfl, rfl, rfl, z3⟩ := open_int Tryd.underlying42 (hval 3 42 v3 rfl rfl) h3
  have b3 := wf_u64 z3
  obtain ⟨x4, rfl⟩ := read_dig Tryd.underlying31 Tryd.underlying5 (C5 (zb := true)) (C31 (zb := true)) (hval 4 31 v4 rfl rfl) h4
  have hrun := run_of told (2 ^ 58) (F5 (s0 := []) (2 ^ 58) (Nat.le_refl _) x0 x1 x2 x3 b1.1 b1.2 b2.1 b2.2 b3.1 b3.2 x4) hL (vs := #[v0, .int .u8 x1, .int .u8 x2, .int .u64 x3, digV x4]) ⟨rfl, fun j x hj => by
    match j, hj with
    | 0, hj => cases hj; exact w0
    | 1, hj => cases hj; exact .v rfl
    | 2, hj => cases hj; exact .v rfl
    | 3, hj => cases hj; exact .v rfl
    | 4, hj => cases hj; exact vrel_dig x4⟩
  refine hrun.mono fun e W' ⟨v, G', he, hB, hv⟩ => ?_
  rw [vrel_true hv] at he
  refine ⟨_, he, ?_⟩
  exact post_true (T := (· < Tryd.prog.types.size)) prog_kids prog_full (by rw [Tryd.params5]; decide +kernel) rfl rfl rfl rfl (by kernel_rfl) Tryd.underlying4 hW' hB
end
end Go.Proofs.YtnfdepafmmibaaaDoor
namespace Go.Proofs.YtnfdepafmmibaaaDoor.merkleProofsAreAccepted
open Go Go.ChangeShapes Go.WideShapes Go.ChangeAt Go.RowKit Go.Proofs.YtnfdepafmmibaaaDoor
def wargs : Array Value := #[.slice none 0 0, .int .u8 0, .int .u8 0, .int .u64 0, .agg #[.int .u8 0, .int .u8 0, .int .u8 0, .int .u8 0, .int .u8 0, .int .u8 0, .int .u8 0, .int .u8 0, .int .u8 0, .int .u8 0, .int .u8 0, .int .u8 0, .int .u8 0, .int .u8 0, .int .u8 0, .int .u8 0]]
theorem laid_met (os : Os) : laidMet Tryd.prog Rows.merkleProofsAreAcceptedRow.laid ((laidWorld os).forCall (fun _ _ => 0) ⟨#[], wargs, []⟩).memory :=
  laidMet_of_run' 8 (by kernel_rfl) (by kernel_rfl)
theorem reads (os : Os) {H : Type} (enc : TypeId × Value → H) : ∃ places, DataW.whole enc Tryd.prog ((laidWorld os).forCall (fun _ _ => 0) ⟨#[], wargs, []⟩).memory Tryd.f5.params.toList Rows.merkleProofsAreAcceptedSpec.vars false wargs.toList 8 =
    some ([.nil, .lit (.int .u8 0), .lit (.int .u8 0), .lit (.int .u64 0), .agg [.lit (.int .u8 0), .lit (.int .u8 0), .lit (.int .u8 0), .lit (.int .u8 0), .lit (.int .u8 0), .lit (.int .u8 0), .lit (.int .u8 0), .lit (.int .u8 0), .lit (.int .u8 0), .lit (.int .u8 0), .lit (.int .u8 0), .lit (.int .u8 0), .lit (.int .u8 0), .lit (.int .u8 0), .lit (.int .u8 0), .lit (.int .u8 0)]], [], places) := ⟨[], by kernel_rfl⟩
theorem lifted (os : Os) (started : os.Started) (H : Type) (enc : TypeId × Value → H) (F : Stop.Interp) :
    ReturnsInHanded {} Tryd.checked os 5 .any ((OpenSpec.ofChange Rows.merkleProofsAreAcceptedSpec).preRow enc Tryd.prog Tryd.f5 Rows.merkleProofsAreAcceptedRow.domain false Rows.merkleProofsAreAcceptedRow.laid)
      (((OpenSpec.ofChange Rows.merkleProofsAreAcceptedSpec).at F).post enc Tryd.prog Tryd.f5 false true false false) := by
  obtain ⟨places, hx⟩ := reads os enc
  refine returnsInHanded_of_row (C := Tryd.checked) (s := OpenSpec.ofChange Rows.merkleProofsAreAcceptedSpec) own started (by kernel_rfl) Tryd.func5
    (witness_row_at (enc := enc) (C := Tryd.checked) false (laidWorld os) wargs rfl (by kernel_rfl) (by kernel_rfl) (by kernel_rfl)
      (OpenSpec.preRow_of_cond 8 hx (by kernel_rfl) (fun k hk => by cases hk) (by kernel_rfl) (laid_met os))) ?_
  intro W base args ds gs before hval hW _ _ _ hL _ _
  exact contract5 W base args ds gs before hval hW hL
theorem said : Rows.MerkleProofsAreAcceptedSaid :=
  OpenClaim.holds_of_cond 5 Tryd.f5 rfl rfl rfl rfl rfl rfl rfl ⟨rfl, rfl, rfl, rfl, rfl⟩ rfl rfl rfl rfl rfl (by kernel_rfl) Tryd.func5 (by kernel_rfl)
    (of_decide_eq_true (by kernel_rfl)) (by unfold Func.isWrapper; first | (rw [if_pos (by decide +kernel)]; kernel_rfl) | (rw [if_neg (by decide +kernel)]; exact ⟨rfl, rfl⟩))
    (fun os started H enc _ F => by rw [OpenClaim.pre_eq_preRow]; exact lifted os started H enc F)
theorem plain (f : FuncId) (fn : Func) (hf : Tryd.pinned.checked.prog.funcNamed "weirgate/weirgatelaw03.MerkleProofsAreAccepted" = some f) (hfn : Tryd.pinned.checked.prog.funcs[f]? = some fn) :
    false = Tryd.pinned.checked.prog.looks [] ∧ ∀ (j : Nat) t, fn.params[j]? = some t → Tryd.pinned.checked.prog.wantsStandIn t = false := by
  obtain rfl : f = 5 := Option.some.inj ((show Tryd.prog.funcNamed "weirgate/weirgatelaw03.MerkleProofsAreAccepted" = some 5 by kernel_rfl).symm.trans hf) |>.symm
  obtain rfl : fn = Tryd.f5 := (Option.some.inj (Tryd.func5.symm.trans hfn)).symm
  refine ⟨by kernel_rfl, fun j t ht => ?_⟩
  have h1 : (Tryd.f5.params.toList.all fun t => !Tryd.prog.wantsStandIn t) = true := by kernel_rfl
  have := List.all_eq_true.1 h1 t (by rw [Array.mem_toList_iff]; exact Array.mem_of_getElem? ht)
  exact (show Tryd.prog.wantsStandIn t = false by simpa using this)
theorem card : Rows.MerkleProofsAreAcceptedCardSaid :=
  Claim7.holds_tied_plain_at .later [] _ _ _ _ said (fun _ h => by cases h) (by kernel_rfl) (fun _ h => by cases h) merkleProofsAreAccepted_row_tie rfl ⟨rfl, rfl⟩ (by kernel_rfl) rfl plain (by kernel_rfl)
end Go.Proofs.YtnfdepafmmibaaaDoor.merkleProofsAreAccepted

/-
  The statement 'InternPlaysSaid': for every input the law returns true, and the input reads as it did.
-/
import Derived.Test.YtmecgoojoipilaaDoorA5
import Derived.Test.YtmecgoojoipilaaDoorCards
import Derived.Test.YtmecgoojoipilaaDoorTie
import Derived.WalkKit
import Derived.ProofKit
import Derived.OpenShut
import Derived.ShutString
namespace Go.Proofs.YtmecgoojoipilaaDoor.internPlays
open Go.ChangeShapes Go.WideShapes Go.ChangeAt Go.RowKit
open Sx
set_option linter.unusedVariables false
theorem own : ownKnob Tryd.prog.godebug = none := by kernel_rfl
theorem laidOut : laidOutB Tryd.prog = true := by kernel_rfl

theorem valT : ValT Tryd.prog 41 28 := ⟨⟨_, Tryd.underlying41, rfl, ⟨_, _, rfl, rfl, rfl, Tryd.underlying5, by kernel_rfl⟩, ⟨_, _, rfl, rfl, rfl, Tryd.underlying2, by kernel_rfl⟩, ⟨_, _, rfl, rfl, rfl, Tryd.underlying9, by kernel_rfl⟩, ⟨_, rfl, rfl, rfl, by kernel_rfl⟩⟩, by kernel_rfl, Tryd.underlying28⟩

theorem opT : OpT Tryd.prog 33 28 3 31 := ⟨⟨_, Tryd.underlying33, ⟨_, _, rfl, rfl, rfl, Tryd.underlying5, by kernel_rfl⟩, ⟨_, rfl, rfl, rfl, by kernel_rfl⟩, ⟨_, rfl, rfl, rfl, by kernel_rfl⟩⟩, Tryd.underlying31, Tryd.underlying3, by kernel_rfl, by rw [show Tryd.prog.bytesOf 3 = 8 by kernel_rfl]; omega⟩

theorem walk (W : World) (hP : PowT (ctxOf W)) (v0 : Value) (s0 : Sl) (a0 : List OpV) (h0 : v0 = slv s0) (r0 : Ops (heapOf W) s0 a0) (n0 : ∀ o ∈ a0, VBs o.row ∧ o.row.length ≤ 140737488355328 ∧ o.ns.length ≤ 140737488355328) (b0 : a0.length ≤ 140737488355328) : Sx.Spec Tryd.prog (ctxOf W) 3 [v0] (heapOf W) (fun v _ => v = .bool true) := by
  subst h0
  have h : c_law04_InternPlays (ctxOf W) s0 (fun r _ => r = true) (heapOf W) := InternPlays_ok (fmt_ok hP) r0 b0 n0 (fun _ => rfl)
  unfold c_law04_InternPlays at h
  exact h.mono fun v H2 ⟨r, hv, hr⟩ => by rw [hv, hr]

set_option maxRecDepth 100000 in
theorem contract (H : Type) (enc : TypeId × Value → H) (W : World) (base : Nat) (args : Array Value) (ds gs : List (DataW H)) (before : List MemPlace)
    (hval : ∀ (j : Nat) t v, Tryd.f3.params[j]? = some t → args[j]? = some v → Value.okWide Tryd.prog W .any base t v)
    (hW : DataW.Whole enc Tryd.prog Tryd.f3.params.toList Rows.internPlaysSpec.vars false W args.toList ds gs before)
    (hwt : (DataW.weightsEach Tryd.prog (Tryd.f3.params.toList ++ (OpenSpec.ofChange Rows.internPlaysSpec).bare.plain.varTypes Tryd.prog) (ds ++ gs)).all (· ≤ reachBytes) = true) (hP : PowT (ctxOf W)) :
    Calls Tryd.prog 3 args W fun e W' => ∃ v, e = .returned v ∧ Rows.internPlaysSpec.post enc Tryd.prog Tryd.f3 false true false false W args v W' := by
  have hW' := hW
  obtain ⟨p, q, hA0, hV, rfl, hfz, hnd⟩ := hW
  have hA : DataW.TrodAll enc Tryd.prog W 0 (fun _ => true) true Tryd.f3.params.toList args.toList ds p := hA0
  have hAk := hA
  rw [Tryd.params3] at hA hval
  obtain ⟨v0, vs0, d0, ds0, p0, q0, hargs, rfl, rfl, t0, u0⟩ := trodAll_cons hA
  obtain ⟨rfl, rfl, rfl⟩ := trodAll_nil u0
  obtain rfl : args = #[v0] := by cases args; simp_all
  obtain ⟨rfl, rfl⟩ := trodVars_none hV
  have hlt : ∀ x ∈ (p0 ++ [] : List MemPlace), x.block < W.heap.size := fun x hx => hW'.lt x (List.mem_append_left _ hx)
  obtain ⟨s0, css0, _, h0, c0, m0, b0, k0, f0, z0⟩ := argw_slice Tryd.underlying22 (show Tryd.prog.cellsOf 33 = 3 by kernel_rfl) (by omega) (hval 0 22 v0 rfl rfl) t0 (wat hwt (i := 0) rfl rfl)
  obtain ⟨a0, r0, n0, e0⟩ := ops_of valT (by rw [show Tryd.prog.bytesOf 41 = 56 by kernel_rfl]; omega) opT k0 f0 z0
  have b0 : a0.length ≤ 140737488355328 := by
    rw [show Tryd.prog.bytesOf 33 = 56 by kernel_rfl] at b0
    have hmx : reachBytes = 140737488351232 := rfl
    omega
  refine (walk W hP v0 s0 a0 h0 r0 n0 b0 W (st_heapOf W)).mono fun e W' ⟨v, H', he, hst, hv⟩ => ?_
  subst he
  subst hv
  exact ⟨_, rfl, _, _, _, [], _, [], hW', trodAll_mk1 (shut_bool Tryd.underlying4 _), trod_kept laidOut hst (by kernel_rfl) hAk hlt, rfl, hst.frame _, fun h => by cases h⟩

noncomputable def laidWorld (os : Os) : World := laidW Tryd.prog os [(2, lcells 6 (Rows.laid_math_bits_deBruijn32tab (H := Unit))), (3, lcells 6 (Rows.laid_math_bits_deBruijn64tab (H := Unit))), (0, lcells 6 (Rows.laid_internal_strconv_uint64pow10 (H := Unit))), (5, lcells 6 (Rows.laid_unicode_utf8_acceptRanges (H := Unit))), (4, lcells 6 Rows.laid_unicode_utf8_first)]
theorem laid_met (os : Os) : laidMet Tryd.prog Rows.internPlaysRow.laid ((laidWorld os).forCall (fun _ _ => 0) ⟨#[], #[.slice none 0 0], []⟩).memory :=
  laidMet_of_run' 8 (by kernel_rfl) (by kernel_rfl)
theorem reads (os : Os) {H : Type} (enc : TypeId × Value → H) : ∃ places, DataW.whole enc Tryd.prog ((laidWorld os).forCall (fun _ _ => 0) ⟨#[], #[.slice none 0 0], []⟩).memory Tryd.f3.params.toList Rows.internPlaysSpec.vars false (#[.slice none 0 0] : Array Value).toList 8 = some ([.nil], [], places) :=
  ⟨[], by kernel_rfl⟩

set_option maxRecDepth 100000 in
theorem lifted (os : Os) (started : os.Started) (H : Type) (enc : TypeId × Value → H) (F : Stop.Interp) :
    ReturnsInHanded {} Tryd.checked os 3 .any ((OpenSpec.ofChange Rows.internPlaysSpec).preRow enc Tryd.prog Tryd.f3 Rows.internPlaysRow.domain false Rows.internPlaysRow.laid) (((OpenSpec.ofChange Rows.internPlaysSpec).at F).post enc Tryd.prog Tryd.f3 false true false false) := by
  obtain ⟨places, hx⟩ := reads os enc
  refine returnsInHanded_of_row (C := Tryd.checked) (s := OpenSpec.ofChange Rows.internPlaysSpec) own started (by kernel_rfl) Tryd.func3
    (witness_row_at (enc := enc) (C := Tryd.checked) false (laidWorld os) #[.slice none 0 0] rfl (by kernel_rfl) (by kernel_rfl) (by kernel_rfl)
      (OpenSpec.preRow_of_cond 8 hx (by kernel_rfl) (fun k hk => by cases hk) (by kernel_rfl) (laid_met os))) ?_
  intro W base args ds gs before hval hW _ _ hwt hL _ _
  exact contract H enc W base args ds gs before hval hW hwt (pow_met hL 2 (by kernel_rfl) Tryd.lays173.m17)

theorem said : Rows.InternPlaysSaid :=
  OpenClaim.holds_of_cond 3 Tryd.f3 rfl rfl rfl rfl rfl rfl rfl ⟨rfl, rfl, rfl, rfl, rfl⟩ rfl rfl rfl rfl rfl (by kernel_rfl) Tryd.func3 (by kernel_rfl)
    (of_decide_eq_true (by kernel_rfl)) (by unfold Func.isWrapper; first | (rw [if_pos (by decide +kernel)]; kernel_rfl) | (rw [if_neg (by decide +kernel)]; exact ⟨rfl, rfl⟩))
    (fun os started H enc _ F => by rw [OpenClaim.pre_eq_preRow]; exact lifted os started H enc F)

theorem plain (f : FuncId) (fn : Func) (hf : Tryd.pinned.checked.prog.funcNamed "corollary/corollarylaw04.InternPlays" = some f) (hfn : Tryd.pinned.checked.prog.funcs[f]? = some fn) :
    false = Tryd.pinned.checked.prog.looks [] ∧ ∀ (j : Nat) t, fn.params[j]? = some t → Tryd.pinned.checked.prog.wantsStandIn t = false := by
  obtain rfl : f = 3 := Option.some.inj ((show Tryd.prog.funcNamed "corollary/corollarylaw04.InternPlays" = some 3 by kernel_rfl).symm.trans hf) |>.symm
  obtain rfl : fn = Tryd.f3 := (Option.some.inj (Tryd.func3.symm.trans hfn)).symm
  refine ⟨by kernel_rfl, fun j t ht => ?_⟩
  rw [Tryd.params3] at ht
  have hm : t ∈ [22] := by simpa using Array.mem_of_getElem? ht
  have hall : ∀ t ∈ [22], Tryd.prog.wantsStandIn t = false := by
    intro t h
    simp only [List.mem_cons, List.mem_nil_iff, or_false] at h
    rcases h with rfl
    all_goals kernel_rfl
  exact hall t hm

theorem card : Rows.InternPlaysCardSaid :=
  Claim7.holds_tied_plain_at .later [] _ _ _ _ said (fun _ h => by cases h) (by kernel_rfl) (fun _ h => by cases h) internPlays_row_tie rfl ⟨rfl, rfl⟩ (by kernel_rfl) rfl plain (by kernel_rfl)
#print axioms card
end Go.Proofs.YtmecgoojoipilaaDoor.internPlays

/-
  The statement 'CsvEndsSaid': for every input the law returns true, and the input reads as it did.
-/
import Derived.Test.YthmnlmegehaccaaDoorCsvR
import Derived.Test.YthmnlmegehaccaaDoorCards
import Derived.Test.YthmnlmegehaccaaDoorTie
import Derived.WalkKit
import Derived.ProofKit
import Derived.OpenShut
import Derived.ShutString
import Derived.Test.YthmnlmegehaccaaDoorSxDoor
namespace Go.Proofs.YthmnlmegehaccaaDoor.csvEnds
open Go.ChangeShapes Go.WideShapes Go.ChangeAt Go.RowKit
open Sx
set_option linter.unusedVariables false

theorem own : ownKnob Tryd.prog.godebug = none := by kernel_rfl
theorem laidOut : laidOutB Tryd.prog = true := by kernel_rfl

theorem walk (W : World) (v0 : Value) (s0 : Sl) (a0 : List (List Str)) (h0 : v0 = slv s0) (r0 : Sx.Rows (heapOf W) s0 a0) (b0 : Bnd a0) (c0 : s0.len ≤ s0.cap) (v1 : Value) (s1 : Sl) (a1 : List Bool) (h1 : v1 = slv s1) (r1 : rdsl (heapOf W) s1 (a1.map fun x => Value.bool x)) (n1 : s1.len = a1.length) (v2 : Value) (a2 : Bool) (h2 : v2 = .bool a2) : Sx.Spec Tryd.prog (ctxOf W) 7 [v0, v1, v2] (heapOf W) (fun v _ => v = .bool true) := by
  subst h0
  subst h1
  subst h2
  have h : c_law28_CsvEnds (ctxOf W) s0 s1 a2 (fun r _ => r = true) (heapOf W) := CsvEnds_ok r0 b0 c0 r1 n1 (k := fun _ => rfl)
  unfold c_law28_CsvEnds at h
  exact h.mono fun v H2 ⟨r, hv, hr⟩ => by rw [hv, hr]

theorem contract (H : Type) (enc : TypeId × Value → H) (W : World) (base : Nat) (args : Array Value) (ds gs : List (DataW H)) (before : List MemPlace)
    (hval : ∀ (j : Nat) t v, Tryd.f7.params[j]? = some t → args[j]? = some v → Value.okWide Tryd.prog W .any base t v)
    (hW : DataW.Whole enc Tryd.prog Tryd.f7.params.toList Rows.csvEndsSpec.vars false W args.toList ds gs before)
    (hwt : (DataW.weightsEach Tryd.prog (Tryd.f7.params.toList ++ (OpenSpec.ofChange Rows.csvEndsSpec).bare.plain.varTypes Tryd.prog) (ds ++ gs)).all (· ≤ reachBytes) = true) :
    Calls Tryd.prog 7 args W fun e W' => ∃ v, e = .returned v ∧ Rows.csvEndsSpec.post enc Tryd.prog Tryd.f7 false true false false W args v W' := by
  have hW' := hW
  obtain ⟨p, q, hA0, hV, rfl, hfz, hnd⟩ := hW
  have hA : DataW.TrodAll enc Tryd.prog W 0 (fun _ => true) true Tryd.f7.params.toList args.toList ds p := hA0
  have hAk := hA
  rw [Tryd.params7] at hA hval
  obtain ⟨v0, vs0, d0, ds0, p0, q0, hargs, rfl, rfl, t0, u0⟩ := trodAll_cons hA
  obtain ⟨v1, vs1, d1, ds1, p1, q1, rfl, rfl, rfl, t1, u1⟩ := trodAll_cons u0
  obtain ⟨v2, vs2, d2, ds2, p2, q2, rfl, rfl, rfl, t2, u2⟩ := trodAll_cons u1
  obtain ⟨rfl, rfl, rfl⟩ := trodAll_nil u2
  obtain rfl : args = #[v0, v1, v2] := by cases args; simp_all
  obtain ⟨rfl, rfl⟩ := trodVars_none hV
  have hlt : ∀ x ∈ (p0 ++ (p1 ++ (p2 ++ [])) : List MemPlace), x.block < W.heap.size := fun x hx => hW'.lt x (List.mem_append_left _ hx)
  obtain ⟨s0, css0, _, h0, c0, m0, b0, k0, f0, z0⟩ := argw_slice Tryd.underlying23 (show Tryd.prog.cellsOf 28 = 1 by kernel_rfl) (by omega) (hval 0 23 v0 rfl rfl) t0 (wat hwt (i := 0) rfl rfl)
  obtain ⟨a0, r0, b0⟩ := rows_of b0 (by kernel_rfl) (by kernel_rfl) Tryd.underlying28 Tryd.underlying9 (by kernel_rfl) k0 f0 z0
  obtain ⟨s1, css1, _, h1, c1, m1, b1, k1, f1, z1⟩ := argw_slice Tryd.underlying37 (show Tryd.prog.cellsOf 4 = 1 by kernel_rfl) (by omega) (hval 1 37 v1 rfl rfl) t1 (wat hwt (i := 1) rfl rfl)
  obtain ⟨a1, r1, n1⟩ := bools_of Tryd.underlying4 k1 f1 z1
  obtain ⟨a2, h2⟩ := arg_bool Tryd.underlying4 (hval 2 4 v2 rfl rfl)
  refine (walk W v0 s0 a0 h0 r0 b0 c0 v1 s1 a1 h1 r1 n1 v2 a2 h2 W (st_heapOf W)).mono fun e W' ⟨v, H', he, hst, hv⟩ => ?_
  subst he
  subst hv
  exact ⟨_, rfl, _, _, _, [], _, [], hW', trodAll_mk1 (shut_bool Tryd.underlying4 _), trod_kept laidOut hst (by kernel_rfl) hAk hlt, rfl, hst.frame _, fun h => by cases h⟩

noncomputable def laidWorld (os : Os) : World := laidW Tryd.prog os [(2, lcells 6 (Rows.laid_unicode_utf8_acceptRanges (H := Unit))), (1, lcells 6 Rows.laid_unicode_utf8_first)]
theorem laid_met (os : Os) : laidMet Tryd.prog Rows.csvEndsRow.laid ((laidWorld os).forCall (fun _ _ => 0) ⟨#[], #[.slice none 0 0, .slice none 0 0, .bool false], []⟩).memory :=
  laidMet_of_run' 8 (by kernel_rfl) (by kernel_rfl)
theorem reads (os : Os) {H : Type} (enc : TypeId × Value → H) : ∃ places, DataW.whole enc Tryd.prog ((laidWorld os).forCall (fun _ _ => 0) ⟨#[], #[.slice none 0 0, .slice none 0 0, .bool false], []⟩).memory Tryd.f7.params.toList Rows.csvEndsSpec.vars false (#[.slice none 0 0, .slice none 0 0, .bool false] : Array Value).toList 8 = some ([.nil, .nil, .lit (.bool false)], [], places) :=
  ⟨[], by kernel_rfl⟩

set_option maxRecDepth 100000 in
theorem lifted (os : Os) (started : os.Started) (H : Type) (enc : TypeId × Value → H) (F : Stop.Interp) :
    ReturnsInHanded {} Tryd.checked os 7 .any ((OpenSpec.ofChange Rows.csvEndsSpec).preRow enc Tryd.prog Tryd.f7 Rows.csvEndsRow.domain false Rows.csvEndsRow.laid) (((OpenSpec.ofChange Rows.csvEndsSpec).at F).post enc Tryd.prog Tryd.f7 false true false false) := by
  obtain ⟨places, hx⟩ := reads os enc
  refine returnsInHanded_of_row (C := Tryd.checked) (s := OpenSpec.ofChange Rows.csvEndsSpec) own started (by kernel_rfl) Tryd.func7
    (witness_row_at (enc := enc) (C := Tryd.checked) false (laidWorld os) #[.slice none 0 0, .slice none 0 0, .bool false] rfl (by kernel_rfl) (by kernel_rfl) (by kernel_rfl)
      (OpenSpec.preRow_of_cond 8 hx (by kernel_rfl) (fun k hk => by cases hk) (by kernel_rfl) (laid_met os))) ?_
  intro W base args ds gs before hval hW _ _ hwt hL _ _
  exact contract H enc W base args ds gs before hval hW hwt

theorem said : Rows.CsvEndsSaid :=
  OpenClaim.holds_of_cond 7 Tryd.f7 rfl rfl rfl rfl rfl rfl rfl ⟨rfl, rfl, rfl, rfl, rfl⟩ rfl rfl rfl rfl rfl (by kernel_rfl) Tryd.func7 (by kernel_rfl)
    (of_decide_eq_true (by kernel_rfl)) (by unfold Func.isWrapper; first | (rw [if_pos (by decide +kernel)]; kernel_rfl) | (rw [if_neg (by decide +kernel)]; exact ⟨rfl, rfl⟩))
    (fun os started H enc _ F => by rw [OpenClaim.pre_eq_preRow]; exact lifted os started H enc F)

theorem plain (f : FuncId) (fn : Func) (hf : Tryd.pinned.checked.prog.funcNamed "corollary/corollarylaw28.CsvEnds" = some f) (hfn : Tryd.pinned.checked.prog.funcs[f]? = some fn) :
    false = Tryd.pinned.checked.prog.looks [] ∧ ∀ (j : Nat) t, fn.params[j]? = some t → Tryd.pinned.checked.prog.wantsStandIn t = false := by
  obtain rfl : f = 7 := Option.some.inj ((show Tryd.prog.funcNamed "corollary/corollarylaw28.CsvEnds" = some 7 by kernel_rfl).symm.trans hf) |>.symm
  obtain rfl : fn = Tryd.f7 := (Option.some.inj (Tryd.func7.symm.trans hfn)).symm
  refine ⟨by kernel_rfl, fun j t ht => ?_⟩
  rw [Tryd.params7] at ht
  have hm : t ∈ [23, 37, 4] := by simpa using Array.mem_of_getElem? ht
  have hall : ∀ t ∈ [23, 37, 4], Tryd.prog.wantsStandIn t = false := by
    intro t h
    simp only [List.mem_cons, List.mem_nil_iff, or_false] at h
    rcases h with rfl | rfl | rfl
    all_goals kernel_rfl
  exact hall t hm

theorem card : Rows.CsvEndsCardSaid :=
  Claim7.holds_tied_plain_at .later [] _ _ _ _ said (fun _ h => by cases h) (by kernel_rfl) (fun _ h => by cases h) csvEnds_row_tie rfl ⟨rfl, rfl⟩ (by kernel_rfl) rfl plain (by kernel_rfl)
#print axioms card
end Go.Proofs.YthmnlmegehaccaaDoor.csvEnds

/-
  Made by program (wip/gen/gen.py): the shallow forms of the functions, and that each implies its contract.
-/
import Derived.Test.YtlpjpjbgfffffaaDoorSh3
set_option linter.unusedVariables false
set_option maxRecDepth 100000
namespace Sx
open Go Go.Proofs
def sh_internal_stringslite_Index (C : Ctx) (p_s : Str) (p_substr : Str) (K : Int → Heap → Prop) (H : Heap) : Prop :=
  ift ((((List.length p_substr : Int) : Int) == 0) || (p_substr == p_s))
 (K 0 H)
 (ift (((List.length p_substr : Int) : Int) == 1)
 (ixs p_substr 0 fun c4 =>
 c_internal_stringslite_IndexByte C p_s (c4.toNat : Int) (fun r7 H8 =>
 K r7 H8) H)
 (ift (decide (((List.length p_substr : Int) : Int) ≥ (List.length p_s : Int)))
 (K (-1) H)
 (ldI H .i64 (0, 0) fun x10 =>
 ift ((decide (((List.length p_substr : Int) : Int) ≤ x10)) && (decide (((List.length p_s : Int) : Int) ≤ 64)))
 (False)
 (ixs p_substr 0 fun c14 =>
 ixs p_substr 1 fun c17 =>
 lp (α := Int × Int) (0, 0) H (fun x20 J21 H22 =>
 ift (decide ((x20.1 : Int) < (w .i64 ((w .i64 ((List.length p_s : Int) - (List.length p_substr : Int))) + 1))))
 (jn (α := Int) (fun x25 H26 =>
 ixs p_s (w .i64 (x25 + 1)) fun c41 =>
 jn (α := Bool) (fun b44 H54 =>
 ift b44
 (K x25 H54)
 (ldI H54 .i64 (0, 0) fun x56 =>
 jn (α := Bool) (fun b58 H64 =>
 ift b58
 (False)
 (ldI H64 .i64 (0, 0) fun x72 =>
 ift (((decide (((List.length p_substr : Int) : Int) > x72)) && (decide (((w .i64 (x20.2 + 1)) : Int) ≥ (w .i64 (4 + (sShr .i64 (w .i64 (x25 + 1)) 4)))))) && (decide (((w .i64 (x25 + 1)) : Int) < (w .i64 ((w .i64 ((List.length p_s : Int) - (List.length p_substr : Int))) + 1)))))
 (slS p_s (w .i64 (x25 + 1)) (List.length p_s : Int) fun t77 =>
 c_internal_bytealg_IndexRabinKarp_string C t77 p_substr (fun r83 H84 =>
 ift (decide ((r83 : Int) < 0))
 (K (-1) H84)
 (K (w .i64 ((w .i64 (x25 + 1)) + r83)) H84)) H64)
 (J21 ((w .i64 (x25 + 1)), (w .i64 (x20.2 + 1))) H64)))
 (fun J59 => ift (decide (((List.length p_substr : Int) : Int) ≤ x56))
 (c_internal_bytealg_Cutover C (w .i64 (x25 + 1)) (fun r62 H63 =>
 J59 (decide (((w .i64 (x20.2 + 1)) : Int) > r62)) H63) H54)
 (J59 false H54))))
 (fun J45 => ift (((c41.toNat : Int) : Int) == (c17.toNat : Int))
 (slS p_s x25 (w .i64 (x25 + (List.length p_substr : Int))) fun t48 =>
 J45 (t48 == p_substr) H26)
 (J45 false H26)))
 (fun J24 => ixs p_s x20.1 fun c28 =>
 ift (((c28.toNat : Int) : Int) != (c14.toNat : Int))
 (slS p_s (w .i64 (x20.1 + 1)) (w .i64 ((w .i64 ((List.length p_s : Int) - (List.length p_substr : Int))) + 1)) fun t32 =>
 c_internal_stringslite_IndexByte C t32 (c14.toNat : Int) (fun r38 H39 =>
 ift (decide ((r38 : Int) < 0))
 (K (-1) H39)
 (J24 (w .i64 (x20.1 + (w .i64 (r38 + 1)))) H39)) H22)
 (J24 x20.1 H22)))
 (K (-1) H22))))))

theorem ad_internal_stringslite_Index (C : Ctx) (p_s : Str) (p_substr : Str) (K : Int → Heap → Prop) (H : Heap) (h : sh_internal_stringslite_Index C p_s p_substr K H) : c_internal_stringslite_Index C p_s p_substr K H := by
  refine Spec.enter Tryd.func109 rfl Tryd.ntmps109 rfl ?_
  refine GC.sub [(0, sv p_s), (1, sv p_substr)] ⟨rfl, rfl, trivial⟩ ?_
  refine GC.seq ?_
  refine GC.region ?_
  refine GL.val trivial rfl (OV.assign (v := .int .i64 0) rfl) ?_
  refine GL.nil ?_
  refine GC.seq ?_
  refine GC.region ?_
  refine GL.val trivial rfl (OV.move (v := sv p_substr) rfl) ?_
  refine GL.val trivial rfl (OV.lenStr (s := p_substr) rfl rfl) ?_
  refine GL.val trivial rfl (OV.assign (v := .int .i64 (List.length p_substr : Int)) rfl) ?_
  refine GL.nil ?_
  refine GC.seq ?_
  refine GC.block ?_
  refine GC.seq ?_
  refine GC.region ?_
  refine GL.val trivial rfl (OV.move (v := .int .i64 (List.length p_substr : Int)) rfl) ?_
  refine GL.val trivial rfl (OV.ibin (v := .bool (((List.length p_substr : Int) : Int) == 0)) rfl rfl rfl) ?_
  refine GL.val trivial rfl (OV.move (v := .bool (((List.length p_substr : Int) : Int) == 0)) rfl) ?_
  refine GL.cut0 4 [(23, .bool ((((List.length p_substr : Int) : Int) == 0) || (p_substr == p_s))), (0, sv p_s), (1, sv p_substr), (5, .int .i64 (List.length p_substr : Int))] ?_ ?_
  · rcases Bool.eq_false_or_eq_true (((List.length p_substr : Int) : Int) == 0) with hc1 | hc1
    · skip
      refine GL.skip ⟨_, rfl, .inl ⟨_, rfl, hc1⟩⟩ rfl ?_
      refine GL.skip ⟨_, rfl, .inl ⟨_, rfl, hc1⟩⟩ rfl ?_
      refine GL.skip ⟨_, rfl, .inl ⟨_, rfl, hc1⟩⟩ rfl ?_
      refine GL.val trivial rfl (OV.pickT (b := ((List.length p_substr : Int) : Int) == 0) (v := .bool true) rfl hc1 rfl) ?_
      exact GL.jump0 (fun _ _ h => h) () rfl ⟨(by rw [hc1]; rfl), rfl, rfl, rfl, trivial⟩
    · skip
      refine GL.val ⟨_, _, rfl, rfl, hc1⟩ rfl (OV.move (v := sv p_substr) rfl) ?_
      refine GL.val ⟨_, _, rfl, rfl, hc1⟩ rfl (OV.move (v := sv p_s) rfl) ?_
      refine GL.val ⟨_, _, rfl, rfl, hc1⟩ rfl (OV.sbin (a := p_substr) (b := p_s) (v := .bool (p_substr == p_s)) rfl rfl rfl) ?_
      refine GL.val trivial rfl (OV.pickF (b := ((List.length p_substr : Int) : Int) == 0) (v := .bool (p_substr == p_s)) rfl hc1 rfl) ?_
      exact GL.jump0 (fun _ _ h => h) () rfl ⟨(by rw [hc1]; rfl), rfl, rfl, rfl, trivial⟩
  refine GL.val trivial rfl (OV.assign (v := .bool ((((List.length p_substr : Int) : Int) == 0) || (p_substr == p_s))) rfl) ?_
  refine GL.nil ?_
  refine GC.cond (b := (((List.length p_substr : Int) : Int) == 0) || (p_substr == p_s)) rfl (fun hc2 => ?_) (fun hc2 => ?_)
  · replace h := And.left h hc2
    refine GC.seq ?_
    refine GC.region ?_
    refine GL.val trivial rfl (OV.assign (v := .int .i64 0) rfl) ?_
    refine GL.nil ?_
    exact GC.ret (fun _ _ hf hs => post_tmp1 rfl rfl hf hs ⟨0, rfl, h⟩)
  · replace h := And.right h hc2
    refine GC.seq ?_
    refine GC.region ?_
    refine GL.val trivial rfl (OV.move (v := .int .i64 (List.length p_substr : Int)) rfl) ?_
    refine GL.val trivial rfl (OV.ibin (v := .bool (((List.length p_substr : Int) : Int) == 1)) rfl rfl rfl) ?_
    refine GL.val trivial rfl (OV.assign (v := .bool (((List.length p_substr : Int) : Int) == 1)) rfl) ?_
    refine GL.nil ?_
    refine GC.cond (b := ((List.length p_substr : Int) : Int) == 1) rfl (fun hc3 => ?_) (fun hc3 => ?_)
    · replace h := And.left h hc3
      refine GC.seq ?_
      refine GC.region ?_
      refine GL.val trivial rfl (OV.move (v := sv p_s) rfl) ?_
      refine GL.val trivial rfl (OV.move (v := sv p_substr) rfl) ?_
      obtain ⟨c4, ha5, hb6, h⟩ := h
      refine GL.val trivial rfl (OV.indexStr (s := p_substr) rfl rfl rfl ha5 hb6) ?_
      refine GL.call h trivial rfl ok_internal_stringslite_IndexByte (vs := [sv p_s, .int .u8 (c4.toNat : Int)]) rfl ?_
      rintro _ H8 ⟨r7, rfl, h⟩
      refine GL.val trivial rfl (OV.assign (v := .int .i64 r7) rfl) ?_
      refine GL.nil ?_
      exact GC.ret (fun _ _ hf hs => post_tmp1 rfl rfl hf hs ⟨r7, rfl, h⟩)
    · replace h := And.right h hc3
      refine GC.seq ?_
      refine GC.region ?_
      refine GL.val trivial rfl (OV.move (v := .int .i64 (List.length p_substr : Int)) rfl) ?_
      refine GL.val trivial rfl (OV.move (v := sv p_s) rfl) ?_
      refine GL.val trivial rfl (OV.lenStr (s := p_s) rfl rfl) ?_
      refine GL.val trivial rfl (OV.ibin (v := .bool (decide (((List.length p_substr : Int) : Int) ≥ (List.length p_s : Int)))) rfl rfl rfl) ?_
      refine GL.val trivial rfl (OV.assign (v := .bool (decide (((List.length p_substr : Int) : Int) ≥ (List.length p_s : Int)))) rfl) ?_
      refine GL.nil ?_
      refine GC.cond (b := decide (((List.length p_substr : Int) : Int) ≥ (List.length p_s : Int))) rfl (fun hc9 => ?_) (fun hc9 => ?_)
      · replace h := And.left h hc9
        refine GC.seq ?_
        refine GC.region ?_
        refine GL.val trivial rfl (OV.assign (v := .int .i64 (-1)) rfl) ?_
        refine GL.nil ?_
        exact GC.ret (fun _ _ hf hs => post_tmp1 rfl rfl hf hs ⟨(-1), rfl, h⟩)
      · replace h := And.right h hc9
        refine GC.seq ?_
        refine GC.region ?_
        refine GL.val trivial rfl (OV.move (v := .int .i64 (List.length p_substr : Int)) rfl) ?_
        obtain ⟨x10, hr11, h⟩ := h
        refine GL.val trivial rfl (OV.load (p := (0, 0)) rfl rfl hr11) ?_
        refine GL.val trivial rfl (OV.ibin (v := .bool (decide (((List.length p_substr : Int) : Int) ≤ x10))) rfl rfl rfl) ?_
        refine GL.val trivial rfl (OV.move (v := .bool (decide (((List.length p_substr : Int) : Int) ≤ x10))) rfl) ?_
        refine GL.cut0 4 [(44, .bool ((decide (((List.length p_substr : Int) : Int) ≤ x10)) && (decide (((List.length p_s : Int) : Int) ≤ 64)))), (0, sv p_s), (1, sv p_substr), (5, .int .i64 (List.length p_substr : Int))] ?_ ?_
        · rcases Bool.eq_false_or_eq_true (decide (((List.length p_substr : Int) : Int) ≤ x10)) with hc12 | hc12
          · skip
            refine GL.val ⟨_, _, rfl, rfl, hc12⟩ rfl (OV.move (v := sv p_s) rfl) ?_
            refine GL.val ⟨_, _, rfl, rfl, hc12⟩ rfl (OV.lenStr (s := p_s) rfl rfl) ?_
            refine GL.val ⟨_, _, rfl, rfl, hc12⟩ rfl (OV.ibin (v := .bool (decide (((List.length p_s : Int) : Int) ≤ 64))) rfl rfl rfl) ?_
            refine GL.val trivial rfl (OV.pickT (b := decide (((List.length p_substr : Int) : Int) ≤ x10)) (v := .bool (decide (((List.length p_s : Int) : Int) ≤ 64))) rfl hc12 rfl) ?_
            exact GL.jump0 (fun _ _ h => h) () rfl ⟨(by rw [hc12]; rfl), rfl, rfl, rfl, trivial⟩
          · skip
            refine GL.skip ⟨_, rfl, .inl ⟨_, rfl, hc12⟩⟩ rfl ?_
            refine GL.skip ⟨_, rfl, .inl ⟨_, rfl, hc12⟩⟩ rfl ?_
            refine GL.skip ⟨_, rfl, .inl ⟨_, rfl, hc12⟩⟩ rfl ?_
            refine GL.val trivial rfl (OV.pickF (b := decide (((List.length p_substr : Int) : Int) ≤ x10)) (v := .bool false) rfl hc12 rfl) ?_
            exact GL.jump0 (fun _ _ h => h) () rfl ⟨(by rw [hc12]; rfl), rfl, rfl, rfl, trivial⟩
        refine GL.val trivial rfl (OV.assign (v := .bool ((decide (((List.length p_substr : Int) : Int) ≤ x10)) && (decide (((List.length p_s : Int) : Int) ≤ 64)))) rfl) ?_
        refine GL.nil ?_
        refine GC.cond (b := (decide (((List.length p_substr : Int) : Int) ≤ x10)) && (decide (((List.length p_s : Int) : Int) ≤ 64))) rfl (fun hc13 => ?_) (fun hc13 => ?_)
        · replace h := And.left h hc13
          refine GC.seq ?_
          exact GC.never h
        · replace h := And.right h hc13
          refine GC.skip_to (fun _ _ h => h) ?_
          refine GC.seq ?_
          refine GC.region ?_
          refine GL.val trivial rfl (OV.move (v := sv p_substr) rfl) ?_
          obtain ⟨c14, ha15, hb16, h⟩ := h
          refine GL.val trivial rfl (OV.indexStr (s := p_substr) rfl rfl rfl ha15 hb16) ?_
          refine GL.val trivial rfl (OV.assign (v := .int .u8 (c14.toNat : Int)) rfl) ?_
          refine GL.nil ?_
          refine GC.seq ?_
          refine GC.region ?_
          refine GL.val trivial rfl (OV.move (v := sv p_substr) rfl) ?_
          obtain ⟨c17, ha18, hb19, h⟩ := h
          refine GL.val trivial rfl (OV.indexStr (s := p_substr) rfl rfl rfl ha18 hb19) ?_
          refine GL.val trivial rfl (OV.assign (v := .int .u8 (c17.toNat : Int)) rfl) ?_
          refine GL.nil ?_
          refine GC.seq ?_
          refine GC.region ?_
          refine GL.val trivial rfl (OV.assign (v := .int .i64 0) rfl) ?_
          refine GL.nil ?_
          refine GC.seq ?_
          refine GC.region ?_
          refine GL.val trivial rfl (OV.move (v := sv p_s) rfl) ?_
          refine GL.val trivial rfl (OV.lenStr (s := p_s) rfl rfl) ?_
          refine GL.val trivial rfl (OV.move (v := .int .i64 (List.length p_substr : Int)) rfl) ?_
          refine GL.val trivial rfl (OV.ibin (v := .int .i64 (w .i64 ((List.length p_s : Int) - (List.length p_substr : Int)))) rfl rfl rfl) ?_
          refine GL.val trivial rfl (OV.ibin (v := .int .i64 (w .i64 ((w .i64 ((List.length p_s : Int) - (List.length p_substr : Int))) + 1))) rfl rfl rfl) ?_
          refine GL.val trivial rfl (OV.assign (v := .int .i64 (w .i64 ((w .i64 ((List.length p_s : Int) - (List.length p_substr : Int))) + 1))) rfl) ?_
          refine GL.nil ?_
          refine GC.seq ?_
          refine GC.region ?_
          refine GL.val trivial rfl (OV.assign (v := .int .i64 0) rfl) ?_
          refine GL.nil ?_
          refine GC.seq ?_
          refine GC.block ?_
          refine GC.loop (α := Int × Int) h (fun x20 => [(8, .int .i64 x20.1), (10, .int .i64 x20.2), (0, sv p_s), (1, sv p_substr), (5, .int .i64 (List.length p_substr : Int)), (6, .int .u8 (c14.toNat : Int)), (7, .int .u8 (c17.toNat : Int)), (9, .int .i64 (w .i64 ((w .i64 ((List.length p_s : Int) - (List.length p_substr : Int))) + 1)))]) ⟨rfl, rfl, rfl, rfl, rfl, rfl, rfl, rfl, trivial⟩ ?_
          intro x20 H22 J21 h
          refine GC.seq ?_
          refine GC.seq ?_
          refine GC.region ?_
          refine GL.val trivial rfl (OV.move (v := .int .i64 x20.1) rfl) ?_
          refine GL.val trivial rfl (OV.move (v := .int .i64 (w .i64 ((w .i64 ((List.length p_s : Int) - (List.length p_substr : Int))) + 1))) rfl) ?_
          refine GL.val trivial rfl (OV.ibin (v := .bool (decide ((x20.1 : Int) < (w .i64 ((w .i64 ((List.length p_s : Int) - (List.length p_substr : Int))) + 1))))) rfl rfl rfl) ?_
          refine GL.nil ?_
          refine GC.cond (b := decide ((x20.1 : Int) < (w .i64 ((w .i64 ((List.length p_s : Int) - (List.length p_substr : Int))) + 1)))) rfl (fun hc23 => ?_) (fun hc23 => ?_)
          · replace h := And.left h hc23
            refine GC.skip ?_
            refine GC.block ?_
            obtain ⟨J24, h, hR27⟩ := h
            refine GC.join (α := Int) J24 (fun x25 => [(8, .int .i64 x25), (0, sv p_s), (1, sv p_substr), (5, .int .i64 (List.length p_substr : Int)), (6, .int .u8 (c14.toNat : Int)), (7, .int .u8 (c17.toNat : Int)), (9, .int .i64 (w .i64 ((w .i64 ((List.length p_s : Int) - (List.length p_substr : Int))) + 1))), (10, .int .i64 x20.2)]) ?_ ?_
            · skip
              refine GC.seq ?_
              refine GC.region ?_
              refine GL.val trivial rfl (OV.move (v := sv p_s) rfl) ?_
              refine GL.val trivial rfl (OV.move (v := .int .i64 x20.1) rfl) ?_
              obtain ⟨c28, ha29, hb30, h⟩ := h
              refine GL.val trivial rfl (OV.indexStr (s := p_s) rfl rfl rfl ha29 hb30) ?_
              refine GL.val trivial rfl (OV.move (v := .int .u8 (c14.toNat : Int)) rfl) ?_
              refine GL.val trivial rfl (OV.ibin (v := .bool (((c28.toNat : Int) : Int) != (c14.toNat : Int))) rfl rfl rfl) ?_
              refine GL.nil ?_
              refine GC.cond (b := ((c28.toNat : Int) : Int) != (c14.toNat : Int)) rfl (fun hc31 => ?_) (fun hc31 => ?_)
              · replace h := And.left h hc31
                refine GC.seq ?_
                refine GC.region ?_
                refine GL.val trivial rfl (OV.move (v := sv p_s) rfl) ?_
                refine GL.val trivial rfl (OV.move (v := .int .i64 x20.1) rfl) ?_
                refine GL.val trivial rfl (OV.ibin (v := .int .i64 (w .i64 (x20.1 + 1))) rfl rfl rfl) ?_
                refine GL.val trivial rfl (OV.move (v := .int .i64 (w .i64 ((w .i64 ((List.length p_s : Int) - (List.length p_substr : Int))) + 1))) rfl) ?_
                obtain ⟨h33, h34, h35, t32, h36, h⟩ := h
                refine GL.val trivial rfl (OV.sliceStr (s := p_s) h33 h34 h35 h36 rfl rfl rfl rfl rfl rfl) ?_
                refine GL.val trivial rfl (OV.move (v := .int .u8 (c14.toNat : Int)) rfl) ?_
                refine GL.call h trivial rfl ok_internal_stringslite_IndexByte (vs := [sv t32, .int .u8 (c14.toNat : Int)]) rfl ?_
                rintro _ H39 ⟨r38, rfl, h⟩
                refine GL.val trivial rfl (OV.assign (v := .int .i64 r38) rfl) ?_
                refine GL.nil ?_
                refine GC.seq ?_
                refine GC.seq ?_
                refine GC.region ?_
                refine GL.val trivial rfl (OV.move (v := .int .i64 r38) rfl) ?_
                refine GL.val trivial rfl (OV.ibin (v := .bool (decide ((r38 : Int) < 0))) rfl rfl rfl) ?_
                refine GL.nil ?_
                refine GC.cond (b := decide ((r38 : Int) < 0)) rfl (fun hc40 => ?_) (fun hc40 => ?_)
                · replace h := And.left h hc40
                  refine GC.seq ?_
                  refine GC.region ?_
                  refine GL.val trivial rfl (OV.assign (v := .int .i64 (-1)) rfl) ?_
                  refine GL.nil ?_
                  exact GC.ret (fun _ _ hf hs => post_tmp1 rfl rfl hf hs ⟨(-1), rfl, h⟩)
                · replace h := And.right h hc40
                  refine GC.skip ?_
                  refine GC.region ?_
                  refine GL.val trivial rfl (OV.move (v := .int .i64 x20.1) rfl) ?_
                  refine GL.val trivial rfl (OV.move (v := .int .i64 r38) rfl) ?_
                  refine GL.val trivial rfl (OV.ibin (v := .int .i64 (w .i64 (r38 + 1))) rfl rfl rfl) ?_
                  refine GL.val trivial rfl (OV.ibin (v := .int .i64 (w .i64 (x20.1 + (w .i64 (r38 + 1))))) rfl rfl rfl) ?_
                  refine GL.val trivial rfl (OV.assign (v := .int .i64 (w .i64 (x20.1 + (w .i64 (r38 + 1))))) rfl) ?_
                  exact GL.jump (fun _ _ h => h) (w .i64 (x20.1 + (w .i64 (r38 + 1)))) h ⟨rfl, rfl, rfl, rfl, rfl, rfl, rfl, rfl, trivial⟩
              · replace h := And.right h hc31
                exact GC.jump (fun _ _ h => h) x20.1 h ⟨rfl, rfl, rfl, rfl, rfl, rfl, rfl, rfl, trivial⟩
            · intro x25 H26 h
              replace h := hR27 x25 H26 h
              refine GC.seq ?_
              refine GC.seq ?_
              refine GC.region ?_
              refine GL.val trivial rfl (OV.move (v := sv p_s) rfl) ?_
              refine GL.val trivial rfl (OV.move (v := .int .i64 x25) rfl) ?_
              refine GL.val trivial rfl (OV.ibin (v := .int .i64 (w .i64 (x25 + 1))) rfl rfl rfl) ?_
              obtain ⟨c41, ha42, hb43, h⟩ := h
              refine GL.val trivial rfl (OV.indexStr (s := p_s) rfl rfl rfl ha42 hb43) ?_
              refine GL.val trivial rfl (OV.move (v := .int .u8 (c17.toNat : Int)) rfl) ?_
              refine GL.val trivial rfl (OV.ibin (v := .bool (((c41.toNat : Int) : Int) == (c17.toNat : Int))) rfl rfl rfl) ?_
              refine GL.val trivial rfl (OV.move (v := .bool (((c41.toNat : Int) : Int) == (c17.toNat : Int))) rfl) ?_
              obtain ⟨J45, h, hR46⟩ := h
              refine GL.cut (α := Bool) 9 J45 (fun b44 => [(93, .bool b44), (0, sv p_s), (1, sv p_substr), (5, .int .i64 (List.length p_substr : Int)), (6, .int .u8 (c14.toNat : Int)), (7, .int .u8 (c17.toNat : Int)), (8, .int .i64 x25), (9, .int .i64 (w .i64 ((w .i64 ((List.length p_s : Int) - (List.length p_substr : Int))) + 1))), (10, .int .i64 x20.2)]) ?_ ?_
              · rcases Bool.eq_false_or_eq_true (((c41.toNat : Int) : Int) == (c17.toNat : Int)) with hc47 | hc47
                · skip
                  replace h := And.left h hc47
                  refine GL.val ⟨_, _, rfl, rfl, hc47⟩ rfl (OV.move (v := sv p_s) rfl) ?_
                  refine GL.val ⟨_, _, rfl, rfl, hc47⟩ rfl (OV.move (v := .int .i64 x25) rfl) ?_
                  refine GL.val ⟨_, _, rfl, rfl, hc47⟩ rfl (OV.move (v := .int .i64 x25) rfl) ?_
                  refine GL.val ⟨_, _, rfl, rfl, hc47⟩ rfl (OV.move (v := .int .i64 (List.length p_substr : Int)) rfl) ?_
                  refine GL.val ⟨_, _, rfl, rfl, hc47⟩ rfl (OV.ibin (v := .int .i64 (w .i64 (x25 + (List.length p_substr : Int)))) rfl rfl rfl) ?_
                  obtain ⟨h49, h50, h51, t48, h52, h⟩ := h
                  refine GL.val ⟨_, _, rfl, rfl, hc47⟩ rfl (OV.sliceStr (s := p_s) h49 h50 h51 h52 rfl rfl rfl rfl rfl rfl) ?_
                  refine GL.val ⟨_, _, rfl, rfl, hc47⟩ rfl (OV.move (v := sv p_substr) rfl) ?_
                  refine GL.val ⟨_, _, rfl, rfl, hc47⟩ rfl (OV.sbin (a := t48) (b := p_substr) (v := .bool (t48 == p_substr)) rfl rfl rfl) ?_
                  refine GL.val trivial rfl (OV.pickT (b := ((c41.toNat : Int) : Int) == (c17.toNat : Int)) (v := .bool (t48 == p_substr)) rfl hc47 rfl) ?_
                  exact GL.jump (fun _ _ h => h) (t48 == p_substr) h ⟨rfl, rfl, rfl, rfl, rfl, rfl, rfl, rfl, rfl, trivial⟩
                · skip
                  replace h := And.right h hc47
                  refine GL.skip ⟨_, rfl, .inl ⟨_, rfl, hc47⟩⟩ rfl ?_
                  refine GL.skip ⟨_, rfl, .inl ⟨_, rfl, hc47⟩⟩ rfl ?_
                  refine GL.skip ⟨_, rfl, .inl ⟨_, rfl, hc47⟩⟩ rfl ?_
                  refine GL.skip ⟨_, rfl, .inl ⟨_, rfl, hc47⟩⟩ rfl ?_
                  refine GL.skip ⟨_, rfl, .inl ⟨_, rfl, hc47⟩⟩ rfl ?_
                  refine GL.skip ⟨_, rfl, .inl ⟨_, rfl, hc47⟩⟩ rfl ?_
                  refine GL.skip ⟨_, rfl, .inl ⟨_, rfl, hc47⟩⟩ rfl ?_
                  refine GL.skip ⟨_, rfl, .inl ⟨_, rfl, hc47⟩⟩ rfl ?_
                  refine GL.val trivial rfl (OV.pickF (b := ((c41.toNat : Int) : Int) == (c17.toNat : Int)) (v := .bool false) rfl hc47 rfl) ?_
                  exact GL.jump (fun _ _ h => h) false h ⟨rfl, rfl, rfl, rfl, rfl, rfl, rfl, rfl, rfl, trivial⟩
              intro b44 H54 h
              replace h := hR46 b44 H54 h
              refine GL.nil ?_
              refine GC.cond (b := b44) rfl (fun hc55 => ?_) (fun hc55 => ?_)
              · replace h := And.left h hc55
                refine GC.seq ?_
                refine GC.region ?_
                refine GL.val trivial rfl (OV.move (v := .int .i64 x25) rfl) ?_
                refine GL.val trivial rfl (OV.assign (v := .int .i64 x25) rfl) ?_
                refine GL.nil ?_
                exact GC.ret (fun _ _ hf hs => post_tmp1 rfl rfl hf hs ⟨x25, rfl, h⟩)
              · replace h := And.right h hc55
                refine GC.skip ?_
                refine GC.seq ?_
                refine GC.region ?_
                refine GL.val trivial rfl (OV.move (v := .int .i64 x25) rfl) ?_
                refine GL.val trivial rfl (OV.ibin (v := .int .i64 (w .i64 (x25 + 1))) rfl rfl rfl) ?_
                refine GL.val trivial rfl (OV.assign (v := .int .i64 (w .i64 (x25 + 1))) rfl) ?_
                refine GL.nil ?_
                refine GC.seq ?_
                refine GC.region ?_
                refine GL.val trivial rfl (OV.move (v := .int .i64 x20.2) rfl) ?_
                refine GL.val trivial rfl (OV.ibin (v := .int .i64 (w .i64 (x20.2 + 1))) rfl rfl rfl) ?_
                refine GL.val trivial rfl (OV.assign (v := .int .i64 (w .i64 (x20.2 + 1))) rfl) ?_
                refine GL.nil ?_
                refine GC.seq ?_
                refine GC.region ?_
                refine GL.val trivial rfl (OV.move (v := .int .i64 (List.length p_substr : Int)) rfl) ?_
                obtain ⟨x56, hr57, h⟩ := h
                refine GL.val trivial rfl (OV.load (p := (0, 0)) rfl rfl hr57) ?_
                refine GL.val trivial rfl (OV.ibin (v := .bool (decide (((List.length p_substr : Int) : Int) ≤ x56))) rfl rfl rfl) ?_
                refine GL.val trivial rfl (OV.move (v := .bool (decide (((List.length p_substr : Int) : Int) ≤ x56))) rfl) ?_
                obtain ⟨J59, h, hR60⟩ := h
                refine GL.cut (α := Bool) 5 J59 (fun b58 => [(107, .bool b58), (0, sv p_s), (1, sv p_substr), (5, .int .i64 (List.length p_substr : Int)), (6, .int .u8 (c14.toNat : Int)), (7, .int .u8 (c17.toNat : Int)), (8, .int .i64 (w .i64 (x25 + 1))), (9, .int .i64 (w .i64 ((w .i64 ((List.length p_s : Int) - (List.length p_substr : Int))) + 1))), (10, .int .i64 (w .i64 (x20.2 + 1)))]) ?_ ?_
                · rcases Bool.eq_false_or_eq_true (decide (((List.length p_substr : Int) : Int) ≤ x56)) with hc61 | hc61
                  · skip
                    replace h := And.left h hc61
                    refine GL.val ⟨_, _, rfl, rfl, hc61⟩ rfl (OV.move (v := .int .i64 (w .i64 (x20.2 + 1))) rfl) ?_
                    refine GL.val ⟨_, _, rfl, rfl, hc61⟩ rfl (OV.move (v := .int .i64 (w .i64 (x25 + 1))) rfl) ?_
                    refine GL.call h ⟨_, _, rfl, rfl, hc61⟩ rfl ok_internal_bytealg_Cutover (vs := [.int .i64 (w .i64 (x25 + 1))]) rfl ?_
                    rintro _ H63 ⟨r62, rfl, h⟩
                    refine GL.val ⟨_, _, rfl, rfl, hc61⟩ rfl (OV.ibin (v := .bool (decide (((w .i64 (x20.2 + 1)) : Int) > r62))) rfl rfl rfl) ?_
                    refine GL.val trivial rfl (OV.pickT (b := decide (((List.length p_substr : Int) : Int) ≤ x56)) (v := .bool (decide (((w .i64 (x20.2 + 1)) : Int) > r62))) rfl hc61 rfl) ?_
                    exact GL.jump (fun _ _ h => h) (decide (((w .i64 (x20.2 + 1)) : Int) > r62)) h ⟨rfl, rfl, rfl, rfl, rfl, rfl, rfl, rfl, rfl, trivial⟩
                  · skip
                    replace h := And.right h hc61
                    refine GL.skip ⟨_, rfl, .inl ⟨_, rfl, hc61⟩⟩ rfl ?_
                    refine GL.skip ⟨_, rfl, .inl ⟨_, rfl, hc61⟩⟩ rfl ?_
                    refine GL.skip ⟨_, rfl, .inl ⟨_, rfl, hc61⟩⟩ rfl ?_
                    refine GL.skip ⟨_, rfl, .inl ⟨_, rfl, hc61⟩⟩ rfl ?_
                    refine GL.val trivial rfl (OV.pickF (b := decide (((List.length p_substr : Int) : Int) ≤ x56)) (v := .bool false) rfl hc61 rfl) ?_
                    exact GL.jump (fun _ _ h => h) false h ⟨rfl, rfl, rfl, rfl, rfl, rfl, rfl, rfl, rfl, trivial⟩
                intro b58 H64 h
                replace h := hR60 b58 H64 h
                refine GL.nil ?_
                refine GC.cond (b := b58) rfl (fun hc65 => ?_) (fun hc65 => ?_)
                · replace h := And.left h hc65
                  refine GC.seq ?_
                  exact GC.never h
                · replace h := And.right h hc65
                  refine GC.seq ?_
                  refine GC.region ?_
                  refine GL.val trivial rfl (OV.move (v := .int .i64 (List.length p_substr : Int)) rfl) ?_
                  obtain ⟨x72, hr73, h⟩ := h
                  refine GL.val trivial rfl (OV.load (p := (0, 0)) rfl rfl hr73) ?_
                  refine GL.val trivial rfl (OV.ibin (v := .bool (decide (((List.length p_substr : Int) : Int) > x72))) rfl rfl rfl) ?_
                  refine GL.val trivial rfl (OV.move (v := .bool (decide (((List.length p_substr : Int) : Int) > x72))) rfl) ?_
                  refine GL.cut0 6 [(127, .bool ((decide (((List.length p_substr : Int) : Int) > x72)) && (decide (((w .i64 (x20.2 + 1)) : Int) ≥ (w .i64 (4 + (sShr .i64 (w .i64 (x25 + 1)) 4))))))), (0, sv p_s), (1, sv p_substr), (5, .int .i64 (List.length p_substr : Int)), (6, .int .u8 (c14.toNat : Int)), (7, .int .u8 (c17.toNat : Int)), (8, .int .i64 (w .i64 (x25 + 1))), (9, .int .i64 (w .i64 ((w .i64 ((List.length p_s : Int) - (List.length p_substr : Int))) + 1))), (10, .int .i64 (w .i64 (x20.2 + 1)))] ?_ ?_
                  · rcases Bool.eq_false_or_eq_true (decide (((List.length p_substr : Int) : Int) > x72)) with hc74 | hc74
                    · skip
                      refine GL.val ⟨_, _, rfl, rfl, hc74⟩ rfl (OV.move (v := .int .i64 (w .i64 (x20.2 + 1))) rfl) ?_
                      refine GL.val ⟨_, _, rfl, rfl, hc74⟩ rfl (OV.move (v := .int .i64 (w .i64 (x25 + 1))) rfl) ?_
                      refine GL.val ⟨_, _, rfl, rfl, hc74⟩ rfl (OV.shr rfl rfl (by decide)) ?_
                      refine GL.val ⟨_, _, rfl, rfl, hc74⟩ rfl (OV.ibin (v := .int .i64 (w .i64 (4 + (sShr .i64 (w .i64 (x25 + 1)) 4)))) rfl rfl rfl) ?_
                      refine GL.val ⟨_, _, rfl, rfl, hc74⟩ rfl (OV.ibin (v := .bool (decide (((w .i64 (x20.2 + 1)) : Int) ≥ (w .i64 (4 + (sShr .i64 (w .i64 (x25 + 1)) 4)))))) rfl rfl rfl) ?_
                      refine GL.val trivial rfl (OV.pickT (b := decide (((List.length p_substr : Int) : Int) > x72)) (v := .bool (decide (((w .i64 (x20.2 + 1)) : Int) ≥ (w .i64 (4 + (sShr .i64 (w .i64 (x25 + 1)) 4)))))) rfl hc74 rfl) ?_
                      exact GL.jump0 (fun _ _ h => h) () rfl ⟨(by rw [hc74]; rfl), rfl, rfl, rfl, rfl, rfl, rfl, rfl, rfl, trivial⟩
                    · skip
                      refine GL.skip ⟨_, rfl, .inl ⟨_, rfl, hc74⟩⟩ rfl ?_
                      refine GL.skip ⟨_, rfl, .inl ⟨_, rfl, hc74⟩⟩ rfl ?_
                      refine GL.skip ⟨_, rfl, .inl ⟨_, rfl, hc74⟩⟩ rfl ?_
                      refine GL.skip ⟨_, rfl, .inl ⟨_, rfl, hc74⟩⟩ rfl ?_
                      refine GL.skip ⟨_, rfl, .inl ⟨_, rfl, hc74⟩⟩ rfl ?_
                      refine GL.val trivial rfl (OV.pickF (b := decide (((List.length p_substr : Int) : Int) > x72)) (v := .bool false) rfl hc74 rfl) ?_
                      exact GL.jump0 (fun _ _ h => h) () rfl ⟨(by rw [hc74]; rfl), rfl, rfl, rfl, rfl, rfl, rfl, rfl, rfl, trivial⟩
                  refine GL.val trivial rfl (OV.move (v := .bool ((decide (((List.length p_substr : Int) : Int) > x72)) && (decide (((w .i64 (x20.2 + 1)) : Int) ≥ (w .i64 (4 + (sShr .i64 (w .i64 (x25 + 1)) 4))))))) rfl) ?_
                  refine GL.cut0 4 [(132, .bool (((decide (((List.length p_substr : Int) : Int) > x72)) && (decide (((w .i64 (x20.2 + 1)) : Int) ≥ (w .i64 (4 + (sShr .i64 (w .i64 (x25 + 1)) 4)))))) && (decide (((w .i64 (x25 + 1)) : Int) < (w .i64 ((w .i64 ((List.length p_s : Int) - (List.length p_substr : Int))) + 1)))))), (0, sv p_s), (1, sv p_substr), (5, .int .i64 (List.length p_substr : Int)), (6, .int .u8 (c14.toNat : Int)), (7, .int .u8 (c17.toNat : Int)), (8, .int .i64 (w .i64 (x25 + 1))), (9, .int .i64 (w .i64 ((w .i64 ((List.length p_s : Int) - (List.length p_substr : Int))) + 1))), (10, .int .i64 (w .i64 (x20.2 + 1)))] ?_ ?_
                  · rcases Bool.eq_false_or_eq_true ((decide (((List.length p_substr : Int) : Int) > x72)) && (decide (((w .i64 (x20.2 + 1)) : Int) ≥ (w .i64 (4 + (sShr .i64 (w .i64 (x25 + 1)) 4)))))) with hc75 | hc75
                    · skip
                      refine GL.val ⟨_, _, rfl, rfl, hc75⟩ rfl (OV.move (v := .int .i64 (w .i64 (x25 + 1))) rfl) ?_
                      refine GL.val ⟨_, _, rfl, rfl, hc75⟩ rfl (OV.move (v := .int .i64 (w .i64 ((w .i64 ((List.length p_s : Int) - (List.length p_substr : Int))) + 1))) rfl) ?_
                      refine GL.val ⟨_, _, rfl, rfl, hc75⟩ rfl (OV.ibin (v := .bool (decide (((w .i64 (x25 + 1)) : Int) < (w .i64 ((w .i64 ((List.length p_s : Int) - (List.length p_substr : Int))) + 1))))) rfl rfl rfl) ?_
                      refine GL.val trivial rfl (OV.pickT (b := (decide (((List.length p_substr : Int) : Int) > x72)) && (decide (((w .i64 (x20.2 + 1)) : Int) ≥ (w .i64 (4 + (sShr .i64 (w .i64 (x25 + 1)) 4)))))) (v := .bool (decide (((w .i64 (x25 + 1)) : Int) < (w .i64 ((w .i64 ((List.length p_s : Int) - (List.length p_substr : Int))) + 1))))) rfl hc75 rfl) ?_
                      exact GL.jump0 (fun _ _ h => h) () rfl ⟨(by rw [hc75]; rfl), rfl, rfl, rfl, rfl, rfl, rfl, rfl, rfl, trivial⟩
                    · skip
                      refine GL.skip ⟨_, rfl, .inl ⟨_, rfl, hc75⟩⟩ rfl ?_
                      refine GL.skip ⟨_, rfl, .inl ⟨_, rfl, hc75⟩⟩ rfl ?_
                      refine GL.skip ⟨_, rfl, .inl ⟨_, rfl, hc75⟩⟩ rfl ?_
                      refine GL.val trivial rfl (OV.pickF (b := (decide (((List.length p_substr : Int) : Int) > x72)) && (decide (((w .i64 (x20.2 + 1)) : Int) ≥ (w .i64 (4 + (sShr .i64 (w .i64 (x25 + 1)) 4)))))) (v := .bool false) rfl hc75 rfl) ?_
                      exact GL.jump0 (fun _ _ h => h) () rfl ⟨(by rw [hc75]; rfl), rfl, rfl, rfl, rfl, rfl, rfl, rfl, rfl, trivial⟩
                  refine GL.nil ?_
                  refine GC.cond (b := ((decide (((List.length p_substr : Int) : Int) > x72)) && (decide (((w .i64 (x20.2 + 1)) : Int) ≥ (w .i64 (4 + (sShr .i64 (w .i64 (x25 + 1)) 4)))))) && (decide (((w .i64 (x25 + 1)) : Int) < (w .i64 ((w .i64 ((List.length p_s : Int) - (List.length p_substr : Int))) + 1))))) rfl (fun hc76 => ?_) (fun hc76 => ?_)
                  · replace h := And.left h hc76
                    refine GC.seq ?_
                    refine GC.region ?_
                    refine GL.val trivial rfl (OV.move (v := sv p_s) rfl) ?_
                    refine GL.val trivial rfl (OV.move (v := .int .i64 (w .i64 (x25 + 1))) rfl) ?_
                    obtain ⟨h78, h79, h80, t77, h81, h⟩ := h
                    refine GL.val trivial rfl (OV.sliceStr (s := p_s) h78 h79 h80 h81 rfl rfl rfl rfl rfl rfl) ?_
                    refine GL.val trivial rfl (OV.move (v := sv p_substr) rfl) ?_
                    refine GL.call h trivial rfl ok_internal_bytealg_IndexRabinKarp_string (vs := [sv t77, sv p_substr]) rfl ?_
                    rintro _ H84 ⟨r83, rfl, h⟩
                    refine GL.val trivial rfl (OV.assign (v := .int .i64 r83) rfl) ?_
                    refine GL.nil ?_
                    refine GC.seq ?_
                    refine GC.seq ?_
                    refine GC.region ?_
                    refine GL.val trivial rfl (OV.move (v := .int .i64 r83) rfl) ?_
                    refine GL.val trivial rfl (OV.ibin (v := .bool (decide ((r83 : Int) < 0))) rfl rfl rfl) ?_
                    refine GL.nil ?_
                    refine GC.cond (b := decide ((r83 : Int) < 0)) rfl (fun hc85 => ?_) (fun hc85 => ?_)
                    · replace h := And.left h hc85
                      refine GC.seq ?_
                      refine GC.region ?_
                      refine GL.val trivial rfl (OV.assign (v := .int .i64 (-1)) rfl) ?_
                      refine GL.nil ?_
                      exact GC.ret (fun _ _ hf hs => post_tmp1 rfl rfl hf hs ⟨(-1), rfl, h⟩)
                    · replace h := And.right h hc85
                      refine GC.skip ?_
                      refine GC.seq ?_
                      refine GC.region ?_
                      refine GL.val trivial rfl (OV.move (v := .int .i64 (w .i64 (x25 + 1))) rfl) ?_
                      refine GL.val trivial rfl (OV.move (v := .int .i64 r83) rfl) ?_
                      refine GL.val trivial rfl (OV.ibin (v := .int .i64 (w .i64 ((w .i64 (x25 + 1)) + r83))) rfl rfl rfl) ?_
                      refine GL.val trivial rfl (OV.assign (v := .int .i64 (w .i64 ((w .i64 (x25 + 1)) + r83))) rfl) ?_
                      refine GL.nil ?_
                      exact GC.ret (fun _ _ hf hs => post_tmp1 rfl rfl hf hs ⟨(w .i64 ((w .i64 (x25 + 1)) + r83)), rfl, h⟩)
                  · replace h := And.right h hc76
                    exact GC.jump (fun _ _ h => h) ((w .i64 (x25 + 1)), (w .i64 (x20.2 + 1))) h ⟨rfl, rfl, rfl, rfl, rfl, rfl, rfl, rfl, trivial⟩
          · replace h := And.right h hc23
            refine GC.exit_to (fun _ _ h => h) ?_
            refine GC.seq ?_
            refine GC.region ?_
            refine GL.val trivial rfl (OV.assign (v := .int .i64 (-1)) rfl) ?_
            refine GL.nil ?_
            exact GC.ret (fun _ _ hf hs => post_tmp1 rfl rfl hf hs ⟨(-1), rfl, h⟩)

def sh_internal_stringslite_HasPrefix (C : Ctx) (p_s : Str) (p_prefix : Str) (K : Bool → Heap → Prop) (H : Heap) : Prop :=
  jn (α := Bool) (fun b1 H11 =>
 K b1 H11)
 (fun J2 => ift (decide (((List.length p_s : Int) : Int) ≥ (List.length p_prefix : Int)))
 (slS p_s 0 (List.length p_prefix : Int) fun t5 =>
 J2 (t5 == p_prefix) H)
 (J2 false H))

theorem ad_internal_stringslite_HasPrefix (C : Ctx) (p_s : Str) (p_prefix : Str) (K : Bool → Heap → Prop) (H : Heap) (h : sh_internal_stringslite_HasPrefix C p_s p_prefix K H) : c_internal_stringslite_HasPrefix C p_s p_prefix K H := by
  refine Spec.enter Tryd.func110 rfl Tryd.ntmps110 rfl ?_
  refine GC.sub [(0, sv p_s), (1, sv p_prefix)] ⟨rfl, rfl, trivial⟩ ?_
  refine GC.seq ?_
  refine GC.region ?_
  refine GL.val trivial rfl (OV.assign (v := .bool false) rfl) ?_
  refine GL.nil ?_
  refine GC.seq ?_
  refine GC.region ?_
  refine GL.val trivial rfl (OV.move (v := sv p_s) rfl) ?_
  refine GL.val trivial rfl (OV.lenStr (s := p_s) rfl rfl) ?_
  refine GL.val trivial rfl (OV.move (v := sv p_prefix) rfl) ?_
  refine GL.val trivial rfl (OV.lenStr (s := p_prefix) rfl rfl) ?_
  refine GL.val trivial rfl (OV.ibin (v := .bool (decide (((List.length p_s : Int) : Int) ≥ (List.length p_prefix : Int)))) rfl rfl rfl) ?_
  refine GL.val trivial rfl (OV.move (v := .bool (decide (((List.length p_s : Int) : Int) ≥ (List.length p_prefix : Int)))) rfl) ?_
  obtain ⟨J2, h, hR3⟩ := h
  refine GL.cut (α := Bool) 7 J2 (fun b1 => [(17, .bool b1)]) ?_ ?_
  · rcases Bool.eq_false_or_eq_true (decide (((List.length p_s : Int) : Int) ≥ (List.length p_prefix : Int))) with hc4 | hc4
    · skip
      replace h := And.left h hc4
      refine GL.val ⟨_, _, rfl, rfl, hc4⟩ rfl (OV.move (v := sv p_s) rfl) ?_
      refine GL.val ⟨_, _, rfl, rfl, hc4⟩ rfl (OV.move (v := sv p_prefix) rfl) ?_
      refine GL.val ⟨_, _, rfl, rfl, hc4⟩ rfl (OV.lenStr (s := p_prefix) rfl rfl) ?_
      obtain ⟨h6, h7, h8, t5, h9, h⟩ := h
      refine GL.val ⟨_, _, rfl, rfl, hc4⟩ rfl (OV.sliceStr (s := p_s) h6 h7 h8 h9 rfl rfl rfl rfl rfl rfl) ?_
      refine GL.val ⟨_, _, rfl, rfl, hc4⟩ rfl (OV.move (v := sv p_prefix) rfl) ?_
      refine GL.val ⟨_, _, rfl, rfl, hc4⟩ rfl (OV.sbin (a := t5) (b := p_prefix) (v := .bool (t5 == p_prefix)) rfl rfl rfl) ?_
      refine GL.val trivial rfl (OV.pickT (b := decide (((List.length p_s : Int) : Int) ≥ (List.length p_prefix : Int))) (v := .bool (t5 == p_prefix)) rfl hc4 rfl) ?_
      exact GL.jump (fun _ _ h => h) (t5 == p_prefix) h ⟨rfl, trivial⟩
    · skip
      replace h := And.right h hc4
      refine GL.skip ⟨_, rfl, .inl ⟨_, rfl, hc4⟩⟩ rfl ?_
      refine GL.skip ⟨_, rfl, .inl ⟨_, rfl, hc4⟩⟩ rfl ?_
      refine GL.skip ⟨_, rfl, .inl ⟨_, rfl, hc4⟩⟩ rfl ?_
      refine GL.skip ⟨_, rfl, .inl ⟨_, rfl, hc4⟩⟩ rfl ?_
      refine GL.skip ⟨_, rfl, .inl ⟨_, rfl, hc4⟩⟩ rfl ?_
      refine GL.skip ⟨_, rfl, .inl ⟨_, rfl, hc4⟩⟩ rfl ?_
      refine GL.val trivial rfl (OV.pickF (b := decide (((List.length p_s : Int) : Int) ≥ (List.length p_prefix : Int))) (v := .bool false) rfl hc4 rfl) ?_
      exact GL.jump (fun _ _ h => h) false h ⟨rfl, trivial⟩
  intro b1 H11 h
  replace h := hR3 b1 H11 h
  refine GL.val trivial rfl (OV.assign (v := .bool b1) rfl) ?_
  refine GL.nil ?_
  exact GC.ret (fun _ _ hf hs => post_tmp1 rfl rfl hf hs ⟨b1, rfl, h⟩)

def sh_strings_asciiSet_contains (C : Ctx) (p_as : Option (Nat × Nat)) (p_c : Int) (K : Bool → Heap → Prop) (H : Heap) : Prop :=
  nck p_as fun p1 =>
 ixr p1 256 p_c <|
 ldB H (p1.1, p1.2 + (p_c : Int).toNat * 1) fun x5 =>
 K x5 H

theorem ad_strings_asciiSet_contains (C : Ctx) (p_as : Option (Nat × Nat)) (p_c : Int) (K : Bool → Heap → Prop) (H : Heap) (h : sh_strings_asciiSet_contains C p_as p_c K H) : c_strings_asciiSet_contains C p_as p_c K H := by
  refine Spec.enter Tryd.func111 rfl Tryd.ntmps111 rfl ?_
  refine GC.sub [(0, pv p_as), (1, .int .u8 p_c)] ⟨rfl, rfl, trivial⟩ ?_
  refine GC.seq ?_
  refine GC.region ?_
  refine GL.val trivial rfl (OV.assign (v := .bool false) rfl) ?_
  refine GL.nil ?_
  refine GC.seq ?_
  refine GC.region ?_
  refine GL.val trivial rfl (OV.move (v := pv p_as) rfl) ?_
  refine GL.val trivial rfl (OV.move (v := .int .u8 p_c) rfl) ?_
  obtain ⟨p1, hp2, h⟩ := h
  refine GL.val trivial rfl (OV.nilCheck (q := p_as) rfl hp2) ?_
  obtain ⟨ha3, hb4, h⟩ := h
  refine GL.val trivial rfl (OV.indexAddrA (p := p1) rfl rfl rfl rfl ha3 hb4) ?_
  obtain ⟨x5, hr6, h⟩ := h
  refine GL.val trivial rfl (OV.load (p := (p1.1, p1.2 + (p_c : Int).toNat * 1)) rfl rfl hr6) ?_
  refine GL.val trivial rfl (OV.assign (v := .bool x5) rfl) ?_
  refine GL.nil ?_
  exact GC.ret (fun _ _ hf hs => post_tmp1 rfl rfl hf hs ⟨x5, rfl, h⟩)

def sh_internal_stringslite_IndexByte (C : Ctx) (p_s : Str) (p_c : Int) (K : Int → Heap → Prop) (H : Heap) : Prop :=
  K (idxB p_s p_c) H

theorem ad_internal_stringslite_IndexByte (C : Ctx) (p_s : Str) (p_c : Int) (K : Int → Heap → Prop) (H : Heap) (h : sh_internal_stringslite_IndexByte C p_s p_c K H) : c_internal_stringslite_IndexByte C p_s p_c K H := by
  refine Spec.enter Tryd.func115 rfl Tryd.ntmps115 rfl ?_
  refine GC.sub [(0, sv p_s), (1, .int .u8 p_c)] ⟨rfl, rfl, trivial⟩ ?_
  refine GC.seq ?_
  refine GC.region ?_
  refine GL.val trivial rfl (OV.assign (v := .int .i64 0) rfl) ?_
  refine GL.nil ?_
  refine GC.seq ?_
  refine GC.region ?_
  refine GL.val trivial rfl (OV.move (v := sv p_s) rfl) ?_
  refine GL.val trivial rfl (OV.move (v := .int .u8 p_c) rfl) ?_
  refine GL.val trivial rfl (OV.ext ext_internal_bytealg_IndexByteString (vs := [sv p_s, .int .u8 p_c]) (v := .int .i64 (idxB p_s p_c)) rfl (fun w => run_idxB _ _ w)) ?_
  refine GL.val trivial rfl (OV.assign (v := .int .i64 (idxB p_s p_c)) rfl) ?_
  refine GL.nil ?_
  exact GC.ret (fun _ _ hf hs => post_tmp1 rfl rfl hf hs ⟨(idxB p_s p_c), rfl, h⟩)
end Sx

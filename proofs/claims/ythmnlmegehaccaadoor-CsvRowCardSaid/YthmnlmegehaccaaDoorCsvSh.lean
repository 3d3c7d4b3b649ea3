/-
  Made by program (wip/gen/gen.py): the shallow forms of the functions, and that each implies its contract.
-/
import Derived.Test.YthmnlmegehaccaaDoorCsvSh1
set_option linter.unusedVariables false
set_option maxRecDepth 100000
namespace Sx
open Go Go.Proofs
def sh_ref28_field (C : Ctx) (p_s : Str) (p_i : Int) (K : Str → Int → Bool → Heap → Prop) (H : Heap) : Prop :=
  jn (α := Bool) (fun b1 H8 =>
 ift b1
 (lp (α := Int × Sl) ((w .i64 (p_i + 1)), Sl.nil) H8 (fun x10 J11 H12 =>
 ift (decide ((x10.1 : Int) ≥ (List.length p_s : Int)))
 (K [] 0 false H12)
 (ixs p_s x10.1 fun c14 =>
 ift (((c14.toNat : Int) : Int) == 34)
 (jn (α := Bool) (fun b18 H25 =>
 ift b18
 (apd ([.int .u8 0]) 1 x10.2 ([.int .u8 34]) 1 (fun r27 H28 =>
 J11 ((w .i64 (x10.1 + 2)), r27) H28) H25)
 (b2s x10.2 (fun t29 =>
 K t29 (w .i64 (x10.1 + 1)) true H25) H25))
 (fun J19 => ift (decide (((w .i64 (x10.1 + 1)) : Int) < (List.length p_s : Int)))
 (ixs p_s (w .i64 (x10.1 + 1)) fun c22 =>
 J19 (((c22.toNat : Int) : Int) == 34) H12)
 (J19 false H12)))
 (ixs p_s x10.1 fun c32 =>
 apd ([.int .u8 0]) 1 x10.2 ([.int .u8 (c32.toNat : Int)]) 1 (fun r35 H36 =>
 J11 ((w .i64 (x10.1 + 1)), r35) H36) H12))))
 (lp (α := Int) p_i H8 (fun x37 J38 H39 =>
 jn (α := Bool) (fun b40 H47 =>
 jn (α := Bool) (fun b48 H54 =>
 ift b48
 (ixs p_s x37 fun c56 =>
 jn (α := Bool) (fun b59 H66 =>
 ift b59
 (K [] 0 false H66)
 (J38 (w .i64 (x37 + 1)) H66))
 (fun J60 => ift (((c56.toNat : Int) : Int) == 34)
 (J60 true H54)
 (ixs p_s x37 fun c63 =>
 J60 (((c63.toNat : Int) : Int) == 13) H54)))
 (slS p_s p_i x37 fun t68 =>
 K t68 x37 true H54))
 (fun J49 => ift b40
 (c_ref28_end C p_s x37 (fun r52 H53 =>
 J49 ((r52 : Int) == 0) H53) H47)
 (J49 false H47)))
 (fun J41 => ift (decide ((x37 : Int) < (List.length p_s : Int)))
 (ixs p_s x37 fun c44 =>
 J41 (((c44.toNat : Int) : Int) != 44) H39)
 (J41 false H39)))))
 (fun J2 => ift (decide ((p_i : Int) < (List.length p_s : Int)))
 (ixs p_s p_i fun c5 =>
 J2 (((c5.toNat : Int) : Int) == 34) H)
 (J2 false H))

theorem ad_ref28_field (C : Ctx) (p_s : Str) (p_i : Int) (K : Str → Int → Bool → Heap → Prop) (H : Heap) (h : sh_ref28_field C p_s p_i K H) : c_ref28_field C p_s p_i K H := by
  refine Spec.enter Tryd.func22 rfl Tryd.ntmps22 rfl ?_
  refine GC.sub [(0, sv p_s), (1, .int .i64 p_i)] ⟨rfl, rfl, trivial⟩ ?_
  refine GC.seq ?_
  refine GC.region ?_
  refine GL.val trivial rfl (OV.assign (v := sv []) rfl) ?_
  refine GL.val trivial rfl (OV.assign (v := .int .i64 0) rfl) ?_
  refine GL.val trivial rfl (OV.assign (v := .bool false) rfl) ?_
  refine GL.nil ?_
  refine GC.seq ?_
  refine GC.seq ?_
  refine GC.region ?_
  refine GL.val trivial rfl (OV.move (v := .int .i64 p_i) rfl) ?_
  refine GL.val trivial rfl (OV.move (v := sv p_s) rfl) ?_
  refine GL.val trivial rfl (OV.lenStr (s := p_s) rfl rfl) ?_
  refine GL.val trivial rfl (OV.ibin (v := .bool (decide ((p_i : Int) < (List.length p_s : Int)))) rfl rfl rfl) ?_
  refine GL.val trivial rfl (OV.move (v := .bool (decide ((p_i : Int) < (List.length p_s : Int)))) rfl) ?_
  obtain ⟨J2, h, hR3⟩ := h
  refine GL.cut (α := Bool) 5 J2 (fun b1 => [(18, .bool b1), (0, sv p_s), (1, .int .i64 p_i)]) ?_ ?_
  · rcases Bool.eq_false_or_eq_true (decide ((p_i : Int) < (List.length p_s : Int))) with hc4 | hc4
    · skip
      replace h := And.left h hc4
      refine GL.val ⟨_, _, rfl, rfl, hc4⟩ rfl (OV.move (v := sv p_s) rfl) ?_
      refine GL.val ⟨_, _, rfl, rfl, hc4⟩ rfl (OV.move (v := .int .i64 p_i) rfl) ?_
      obtain ⟨c5, ha6, hb7, h⟩ := h
      refine GL.val ⟨_, _, rfl, rfl, hc4⟩ rfl (OV.indexStr (s := p_s) rfl rfl rfl ha6 hb7) ?_
      refine GL.val ⟨_, _, rfl, rfl, hc4⟩ rfl (OV.ibin (v := .bool (((c5.toNat : Int) : Int) == 34)) rfl rfl rfl) ?_
      refine GL.val trivial rfl (OV.pickT (b := decide ((p_i : Int) < (List.length p_s : Int))) (v := .bool (((c5.toNat : Int) : Int) == 34)) rfl hc4 rfl) ?_
      exact GL.jump (fun _ _ h => h) (((c5.toNat : Int) : Int) == 34) h ⟨rfl, rfl, rfl, trivial⟩
    · skip
      replace h := And.right h hc4
      refine GL.skip ⟨_, rfl, .inl ⟨_, rfl, hc4⟩⟩ rfl ?_
      refine GL.skip ⟨_, rfl, .inl ⟨_, rfl, hc4⟩⟩ rfl ?_
      refine GL.skip ⟨_, rfl, .inl ⟨_, rfl, hc4⟩⟩ rfl ?_
      refine GL.skip ⟨_, rfl, .inl ⟨_, rfl, hc4⟩⟩ rfl ?_
      refine GL.val trivial rfl (OV.pickF (b := decide ((p_i : Int) < (List.length p_s : Int))) (v := .bool false) rfl hc4 rfl) ?_
      exact GL.jump (fun _ _ h => h) false h ⟨rfl, rfl, rfl, trivial⟩
  intro b1 H8 h
  replace h := hR3 b1 H8 h
  refine GL.nil ?_
  refine GC.cond (b := b1) rfl (fun hc9 => ?_) (fun hc9 => ?_)
  · replace h := And.left h hc9
    refine GC.seq ?_
    refine GC.region ?_
    refine GL.val trivial rfl (OV.assign (v := slv Sl.nil) rfl) ?_
    refine GL.nil ?_
    refine GC.seq ?_
    refine GC.region ?_
    refine GL.val trivial rfl (OV.move (v := .int .i64 p_i) rfl) ?_
    refine GL.val trivial rfl (OV.ibin (v := .int .i64 (w .i64 (p_i + 1))) rfl rfl rfl) ?_
    refine GL.val trivial rfl (OV.assign (v := .int .i64 (w .i64 (p_i + 1))) rfl) ?_
    refine GL.nil ?_
    refine GC.block ?_
    refine GC.loop (α := Int × Sl) h (fun x10 => [(1, .int .i64 x10.1), (7, slv x10.2), (0, sv p_s)]) ⟨rfl, rfl, rfl, trivial⟩ ?_
    intro x10 H12 J11 h
    refine GC.block ?_
    refine GC.seq ?_
    refine GC.seq ?_
    refine GC.region ?_
    refine GL.val trivial rfl (OV.move (v := .int .i64 x10.1) rfl) ?_
    refine GL.val trivial rfl (OV.move (v := sv p_s) rfl) ?_
    refine GL.val trivial rfl (OV.lenStr (s := p_s) rfl rfl) ?_
    refine GL.val trivial rfl (OV.ibin (v := .bool (decide ((x10.1 : Int) ≥ (List.length p_s : Int)))) rfl rfl rfl) ?_
    refine GL.nil ?_
    refine GC.cond (b := decide ((x10.1 : Int) ≥ (List.length p_s : Int))) rfl (fun hc13 => ?_) (fun hc13 => ?_)
    · replace h := And.left h hc13
      refine GC.seq ?_
      refine GC.region ?_
      refine GL.val trivial rfl (OV.assign (v := sv []) rfl) ?_
      refine GL.val trivial rfl (OV.assign (v := .int .i64 0) rfl) ?_
      refine GL.val trivial rfl (OV.assign (v := .bool false) rfl) ?_
      refine GL.nil ?_
      exact GC.ret (fun _ _ hf hs => post_tmp3 rfl rfl rfl rfl hf hs ⟨[], 0, false, rfl, h⟩)
    · replace h := And.right h hc13
      refine GC.skip ?_
      refine GC.seq ?_
      refine GC.seq ?_
      refine GC.region ?_
      refine GL.val trivial rfl (OV.move (v := sv p_s) rfl) ?_
      refine GL.val trivial rfl (OV.move (v := .int .i64 x10.1) rfl) ?_
      obtain ⟨c14, ha15, hb16, h⟩ := h
      refine GL.val trivial rfl (OV.indexStr (s := p_s) rfl rfl rfl ha15 hb16) ?_
      refine GL.val trivial rfl (OV.ibin (v := .bool (((c14.toNat : Int) : Int) == 34)) rfl rfl rfl) ?_
      refine GL.nil ?_
      refine GC.cond (b := ((c14.toNat : Int) : Int) == 34) rfl (fun hc17 => ?_) (fun hc17 => ?_)
      · replace h := And.left h hc17
        refine GC.seq ?_
        refine GC.seq ?_
        refine GC.region ?_
        refine GL.val trivial rfl (OV.move (v := .int .i64 x10.1) rfl) ?_
        refine GL.val trivial rfl (OV.ibin (v := .int .i64 (w .i64 (x10.1 + 1))) rfl rfl rfl) ?_
        refine GL.val trivial rfl (OV.move (v := sv p_s) rfl) ?_
        refine GL.val trivial rfl (OV.lenStr (s := p_s) rfl rfl) ?_
        refine GL.val trivial rfl (OV.ibin (v := .bool (decide (((w .i64 (x10.1 + 1)) : Int) < (List.length p_s : Int)))) rfl rfl rfl) ?_
        refine GL.val trivial rfl (OV.move (v := .bool (decide (((w .i64 (x10.1 + 1)) : Int) < (List.length p_s : Int)))) rfl) ?_
        obtain ⟨J19, h, hR20⟩ := h
        refine GL.cut (α := Bool) 6 J19 (fun b18 => [(40, .bool b18), (0, sv p_s), (1, .int .i64 x10.1), (7, slv x10.2)]) ?_ ?_
        · rcases Bool.eq_false_or_eq_true (decide (((w .i64 (x10.1 + 1)) : Int) < (List.length p_s : Int))) with hc21 | hc21
          · skip
            replace h := And.left h hc21
            refine GL.val ⟨_, _, rfl, rfl, hc21⟩ rfl (OV.move (v := sv p_s) rfl) ?_
            refine GL.val ⟨_, _, rfl, rfl, hc21⟩ rfl (OV.move (v := .int .i64 x10.1) rfl) ?_
            refine GL.val ⟨_, _, rfl, rfl, hc21⟩ rfl (OV.ibin (v := .int .i64 (w .i64 (x10.1 + 1))) rfl rfl rfl) ?_
            obtain ⟨c22, ha23, hb24, h⟩ := h
            refine GL.val ⟨_, _, rfl, rfl, hc21⟩ rfl (OV.indexStr (s := p_s) rfl rfl rfl ha23 hb24) ?_
            refine GL.val ⟨_, _, rfl, rfl, hc21⟩ rfl (OV.ibin (v := .bool (((c22.toNat : Int) : Int) == 34)) rfl rfl rfl) ?_
            refine GL.val trivial rfl (OV.pickT (b := decide (((w .i64 (x10.1 + 1)) : Int) < (List.length p_s : Int))) (v := .bool (((c22.toNat : Int) : Int) == 34)) rfl hc21 rfl) ?_
            exact GL.jump (fun _ _ h => h) (((c22.toNat : Int) : Int) == 34) h ⟨rfl, rfl, rfl, rfl, trivial⟩
          · skip
            replace h := And.right h hc21
            refine GL.skip ⟨_, rfl, .inl ⟨_, rfl, hc21⟩⟩ rfl ?_
            refine GL.skip ⟨_, rfl, .inl ⟨_, rfl, hc21⟩⟩ rfl ?_
            refine GL.skip ⟨_, rfl, .inl ⟨_, rfl, hc21⟩⟩ rfl ?_
            refine GL.skip ⟨_, rfl, .inl ⟨_, rfl, hc21⟩⟩ rfl ?_
            refine GL.skip ⟨_, rfl, .inl ⟨_, rfl, hc21⟩⟩ rfl ?_
            refine GL.val trivial rfl (OV.pickF (b := decide (((w .i64 (x10.1 + 1)) : Int) < (List.length p_s : Int))) (v := .bool false) rfl hc21 rfl) ?_
            exact GL.jump (fun _ _ h => h) false h ⟨rfl, rfl, rfl, rfl, trivial⟩
        intro b18 H25 h
        replace h := hR20 b18 H25 h
        refine GL.nil ?_
        refine GC.cond (b := b18) rfl (fun hc26 => ?_) (fun hc26 => ?_)
        · replace h := And.left h hc26
          refine GC.seq ?_
          refine GC.region ?_
          refine GL.val trivial rfl (OV.move (v := slv x10.2) rfl) ?_
          refine GL.appendLit (s := x10.2) (ys := [.int .u8 34]) (zc := [.int .u8 0]) (bytes := 1) h trivial rfl (fun _ => trivial) rfl (fun _ => rfl) (fun _ => rfl) (vs := [(0, .int .u8 34)]) rfl ⟨5, fun _ => by kernel_rfl⟩ ⟨⟨_, _, _, rfl, rfl, rfl, rfl, rfl, rfl⟩⟩ rfl rfl ?_
          intro _ r27 H28 h
          refine GL.val trivial rfl (OV.assign (v := slv r27) rfl) ?_
          refine GL.nil ?_
          refine GC.seq ?_
          refine GC.region ?_
          refine GL.val trivial rfl (OV.move (v := .int .i64 x10.1) rfl) ?_
          refine GL.val trivial rfl (OV.ibin (v := .int .i64 (w .i64 (x10.1 + 2))) rfl rfl rfl) ?_
          refine GL.val trivial rfl (OV.assign (v := .int .i64 (w .i64 (x10.1 + 2))) rfl) ?_
          refine GL.nil ?_
          exact GC.exit_jump (fun _ _ h => h) ((w .i64 (x10.1 + 2)), r27) h ⟨rfl, rfl, rfl, trivial⟩
        · replace h := And.right h hc26
          refine GC.skip ?_
          refine GC.seq ?_
          refine GC.region ?_
          refine GL.val trivial rfl (OV.move (v := slv x10.2) rfl) ?_
          obtain ⟨t29, h30, h31, h⟩ := h
          refine GL.val trivial rfl (OV.b2s (b := x10.2) (s := t29) h30 h31 rfl rfl rfl rfl) ?_
          refine GL.val trivial rfl (OV.move (v := .int .i64 x10.1) rfl) ?_
          refine GL.val trivial rfl (OV.ibin (v := .int .i64 (w .i64 (x10.1 + 1))) rfl rfl rfl) ?_
          refine GL.val trivial rfl (OV.assign (v := sv t29) rfl) ?_
          refine GL.val trivial rfl (OV.assign (v := .int .i64 (w .i64 (x10.1 + 1))) rfl) ?_
          refine GL.val trivial rfl (OV.assign (v := .bool true) rfl) ?_
          refine GL.nil ?_
          exact GC.ret (fun _ _ hf hs => post_tmp3 rfl rfl rfl rfl hf hs ⟨t29, (w .i64 (x10.1 + 1)), true, rfl, h⟩)
      · replace h := And.right h hc17
        refine GC.skip ?_
        refine GC.seq ?_
        refine GC.region ?_
        refine GL.val trivial rfl (OV.move (v := slv x10.2) rfl) ?_
        refine GL.val trivial rfl (OV.move (v := sv p_s) rfl) ?_
        refine GL.val trivial rfl (OV.move (v := .int .i64 x10.1) rfl) ?_
        obtain ⟨c32, ha33, hb34, h⟩ := h
        refine GL.val trivial rfl (OV.indexStr (s := p_s) rfl rfl rfl ha33 hb34) ?_
        refine GL.appendLit (s := x10.2) (ys := [.int .u8 (c32.toNat : Int)]) (zc := [.int .u8 0]) (bytes := 1) h trivial rfl (fun _ => trivial) rfl (fun _ => rfl) (fun _ => rfl) (vs := [(0, .int .u8 (c32.toNat : Int))]) rfl ⟨5, fun _ => by kernel_rfl⟩ ⟨⟨_, _, _, rfl, rfl, rfl, rfl, rfl, rfl⟩⟩ rfl rfl ?_
        intro _ r35 H36 h
        refine GL.val trivial rfl (OV.assign (v := slv r35) rfl) ?_
        refine GL.nil ?_
        refine GC.region ?_
        refine GL.val trivial rfl (OV.move (v := .int .i64 x10.1) rfl) ?_
        refine GL.val trivial rfl (OV.ibin (v := .int .i64 (w .i64 (x10.1 + 1))) rfl rfl rfl) ?_
        refine GL.val trivial rfl (OV.assign (v := .int .i64 (w .i64 (x10.1 + 1))) rfl) ?_
        exact GL.jump (fun _ _ h => h) ((w .i64 (x10.1 + 1)), r35) h ⟨rfl, rfl, rfl, trivial⟩
  · replace h := And.right h hc9
    refine GC.skip ?_
    refine GC.seq ?_
    refine GC.region ?_
    refine GL.val trivial rfl (OV.move (v := .int .i64 p_i) rfl) ?_
    refine GL.val trivial rfl (OV.assign (v := .int .i64 p_i) rfl) ?_
    refine GL.nil ?_
    refine GC.seq ?_
    refine GC.block ?_
    refine GC.loop (α := Int) h (fun x37 => [(1, .int .i64 x37), (0, sv p_s), (8, .int .i64 p_i)]) ⟨rfl, rfl, rfl, trivial⟩ ?_
    intro x37 H39 J38 h
    refine GC.seq ?_
    refine GC.seq ?_
    refine GC.region ?_
    refine GL.val trivial rfl (OV.move (v := .int .i64 x37) rfl) ?_
    refine GL.val trivial rfl (OV.move (v := sv p_s) rfl) ?_
    refine GL.val trivial rfl (OV.lenStr (s := p_s) rfl rfl) ?_
    refine GL.val trivial rfl (OV.ibin (v := .bool (decide ((x37 : Int) < (List.length p_s : Int)))) rfl rfl rfl) ?_
    refine GL.val trivial rfl (OV.move (v := .bool (decide ((x37 : Int) < (List.length p_s : Int)))) rfl) ?_
    obtain ⟨J41, h, hR42⟩ := h
    refine GL.cut (α := Bool) 5 J41 (fun b40 => [(68, .bool b40), (0, sv p_s), (1, .int .i64 x37), (8, .int .i64 p_i)]) ?_ ?_
    · rcases Bool.eq_false_or_eq_true (decide ((x37 : Int) < (List.length p_s : Int))) with hc43 | hc43
      · skip
        replace h := And.left h hc43
        refine GL.val ⟨_, _, rfl, rfl, hc43⟩ rfl (OV.move (v := sv p_s) rfl) ?_
        refine GL.val ⟨_, _, rfl, rfl, hc43⟩ rfl (OV.move (v := .int .i64 x37) rfl) ?_
        obtain ⟨c44, ha45, hb46, h⟩ := h
        refine GL.val ⟨_, _, rfl, rfl, hc43⟩ rfl (OV.indexStr (s := p_s) rfl rfl rfl ha45 hb46) ?_
        refine GL.val ⟨_, _, rfl, rfl, hc43⟩ rfl (OV.ibin (v := .bool (((c44.toNat : Int) : Int) != 44)) rfl rfl rfl) ?_
        refine GL.val trivial rfl (OV.pickT (b := decide ((x37 : Int) < (List.length p_s : Int))) (v := .bool (((c44.toNat : Int) : Int) != 44)) rfl hc43 rfl) ?_
        exact GL.jump (fun _ _ h => h) (((c44.toNat : Int) : Int) != 44) h ⟨rfl, rfl, rfl, rfl, trivial⟩
      · skip
        replace h := And.right h hc43
        refine GL.skip ⟨_, rfl, .inl ⟨_, rfl, hc43⟩⟩ rfl ?_
        refine GL.skip ⟨_, rfl, .inl ⟨_, rfl, hc43⟩⟩ rfl ?_
        refine GL.skip ⟨_, rfl, .inl ⟨_, rfl, hc43⟩⟩ rfl ?_
        refine GL.skip ⟨_, rfl, .inl ⟨_, rfl, hc43⟩⟩ rfl ?_
        refine GL.val trivial rfl (OV.pickF (b := decide ((x37 : Int) < (List.length p_s : Int))) (v := .bool false) rfl hc43 rfl) ?_
        exact GL.jump (fun _ _ h => h) false h ⟨rfl, rfl, rfl, rfl, trivial⟩
    intro b40 H47 h
    replace h := hR42 b40 H47 h
    refine GL.val trivial rfl (OV.move (v := .bool b40) rfl) ?_
    obtain ⟨J49, h, hR50⟩ := h
    refine GL.cut (α := Bool) 5 J49 (fun b48 => [(74, .bool b48), (0, sv p_s), (1, .int .i64 x37), (8, .int .i64 p_i)]) ?_ ?_
    · rcases Bool.eq_false_or_eq_true b40 with hc51 | hc51
      · skip
        replace h := And.left h hc51
        refine GL.val ⟨_, _, rfl, rfl, hc51⟩ rfl (OV.move (v := sv p_s) rfl) ?_
        refine GL.val ⟨_, _, rfl, rfl, hc51⟩ rfl (OV.move (v := .int .i64 x37) rfl) ?_
        refine GL.call h ⟨_, _, rfl, rfl, hc51⟩ rfl ok_ref28_end (vs := [sv p_s, .int .i64 x37]) rfl ?_
        rintro _ H53 ⟨r52, rfl, h⟩
        refine GL.val ⟨_, _, rfl, rfl, hc51⟩ rfl (OV.ibin (v := .bool ((r52 : Int) == 0)) rfl rfl rfl) ?_
        refine GL.val trivial rfl (OV.pickT (b := b40) (v := .bool ((r52 : Int) == 0)) rfl hc51 rfl) ?_
        exact GL.jump (fun _ _ h => h) ((r52 : Int) == 0) h ⟨rfl, rfl, rfl, rfl, trivial⟩
      · skip
        replace h := And.right h hc51
        refine GL.skip ⟨_, rfl, .inl ⟨_, rfl, hc51⟩⟩ rfl ?_
        refine GL.skip ⟨_, rfl, .inl ⟨_, rfl, hc51⟩⟩ rfl ?_
        refine GL.skip ⟨_, rfl, .inl ⟨_, rfl, hc51⟩⟩ rfl ?_
        refine GL.skip ⟨_, rfl, .inl ⟨_, rfl, hc51⟩⟩ rfl ?_
        refine GL.val trivial rfl (OV.pickF (b := b40) (v := .bool false) rfl hc51 rfl) ?_
        exact GL.jump (fun _ _ h => h) false h ⟨rfl, rfl, rfl, rfl, trivial⟩
    intro b48 H54 h
    replace h := hR50 b48 H54 h
    refine GL.nil ?_
    refine GC.cond (b := b48) rfl (fun hc55 => ?_) (fun hc55 => ?_)
    · replace h := And.left h hc55
      refine GC.skip ?_
      refine GC.block ?_
      refine GC.seq ?_
      refine GC.seq ?_
      refine GC.region ?_
      refine GL.val trivial rfl (OV.move (v := sv p_s) rfl) ?_
      refine GL.val trivial rfl (OV.move (v := .int .i64 x37) rfl) ?_
      obtain ⟨c56, ha57, hb58, h⟩ := h
      refine GL.val trivial rfl (OV.indexStr (s := p_s) rfl rfl rfl ha57 hb58) ?_
      refine GL.val trivial rfl (OV.ibin (v := .bool (((c56.toNat : Int) : Int) == 34)) rfl rfl rfl) ?_
      refine GL.val trivial rfl (OV.move (v := .bool (((c56.toNat : Int) : Int) == 34)) rfl) ?_
      obtain ⟨J60, h, hR61⟩ := h
      refine GL.cut (α := Bool) 5 J60 (fun b59 => [(84, .bool b59), (0, sv p_s), (1, .int .i64 x37), (8, .int .i64 p_i)]) ?_ ?_
      · rcases Bool.eq_false_or_eq_true (((c56.toNat : Int) : Int) == 34) with hc62 | hc62
        · skip
          replace h := And.left h hc62
          refine GL.skip ⟨_, rfl, .inl ⟨_, rfl, hc62⟩⟩ rfl ?_
          refine GL.skip ⟨_, rfl, .inl ⟨_, rfl, hc62⟩⟩ rfl ?_
          refine GL.skip ⟨_, rfl, .inl ⟨_, rfl, hc62⟩⟩ rfl ?_
          refine GL.skip ⟨_, rfl, .inl ⟨_, rfl, hc62⟩⟩ rfl ?_
          refine GL.val trivial rfl (OV.pickT (b := ((c56.toNat : Int) : Int) == 34) (v := .bool true) rfl hc62 rfl) ?_
          exact GL.jump (fun _ _ h => h) true h ⟨rfl, rfl, rfl, rfl, trivial⟩
        · skip
          replace h := And.right h hc62
          refine GL.val ⟨_, _, rfl, rfl, hc62⟩ rfl (OV.move (v := sv p_s) rfl) ?_
          refine GL.val ⟨_, _, rfl, rfl, hc62⟩ rfl (OV.move (v := .int .i64 x37) rfl) ?_
          obtain ⟨c63, ha64, hb65, h⟩ := h
          refine GL.val ⟨_, _, rfl, rfl, hc62⟩ rfl (OV.indexStr (s := p_s) rfl rfl rfl ha64 hb65) ?_
          refine GL.val ⟨_, _, rfl, rfl, hc62⟩ rfl (OV.ibin (v := .bool (((c63.toNat : Int) : Int) == 13)) rfl rfl rfl) ?_
          refine GL.val trivial rfl (OV.pickF (b := ((c56.toNat : Int) : Int) == 34) (v := .bool (((c63.toNat : Int) : Int) == 13)) rfl hc62 rfl) ?_
          exact GL.jump (fun _ _ h => h) (((c63.toNat : Int) : Int) == 13) h ⟨rfl, rfl, rfl, rfl, trivial⟩
      intro b59 H66 h
      replace h := hR61 b59 H66 h
      refine GL.nil ?_
      refine GC.cond (b := b59) rfl (fun hc67 => ?_) (fun hc67 => ?_)
      · replace h := And.left h hc67
        refine GC.seq ?_
        refine GC.region ?_
        refine GL.val trivial rfl (OV.assign (v := sv []) rfl) ?_
        refine GL.val trivial rfl (OV.assign (v := .int .i64 0) rfl) ?_
        refine GL.val trivial rfl (OV.assign (v := .bool false) rfl) ?_
        refine GL.nil ?_
        exact GC.ret (fun _ _ hf hs => post_tmp3 rfl rfl rfl rfl hf hs ⟨[], 0, false, rfl, h⟩)
      · replace h := And.right h hc67
        refine GC.skip ?_
        refine GC.region ?_
        refine GL.val trivial rfl (OV.move (v := .int .i64 x37) rfl) ?_
        refine GL.val trivial rfl (OV.ibin (v := .int .i64 (w .i64 (x37 + 1))) rfl rfl rfl) ?_
        refine GL.val trivial rfl (OV.assign (v := .int .i64 (w .i64 (x37 + 1))) rfl) ?_
        exact GL.jump (fun _ _ h => h) (w .i64 (x37 + 1)) h ⟨rfl, rfl, rfl, trivial⟩
    · replace h := And.right h hc55
      refine GC.exit_to (fun _ _ h => h) ?_
      refine GC.seq ?_
      refine GC.region ?_
      refine GL.val trivial rfl (OV.move (v := sv p_s) rfl) ?_
      refine GL.val trivial rfl (OV.move (v := .int .i64 p_i) rfl) ?_
      refine GL.val trivial rfl (OV.move (v := .int .i64 x37) rfl) ?_
      obtain ⟨h69, h70, h71, t68, h72, h⟩ := h
      refine GL.val trivial rfl (OV.sliceStr (s := p_s) h69 h70 h71 h72 rfl rfl rfl rfl rfl rfl) ?_
      refine GL.val trivial rfl (OV.move (v := .int .i64 x37) rfl) ?_
      refine GL.val trivial rfl (OV.assign (v := sv t68) rfl) ?_
      refine GL.val trivial rfl (OV.assign (v := .int .i64 x37) rfl) ?_
      refine GL.val trivial rfl (OV.assign (v := .bool true) rfl) ?_
      refine GL.nil ?_
      exact GC.ret (fun _ _ hf hs => post_tmp3 rfl rfl rfl rfl hf hs ⟨t68, x37, true, rfl, h⟩)

def sh_ref28_end (C : Ctx) (p_s : Str) (p_i : Int) (K : Int → Heap → Prop) (H : Heap) : Prop :=
  jn (α := Bool) (fun b1 H8 =>
 ift b1
 (K 1 H8)
 (jn (α := Bool) (fun b10 H17 =>
 jn (α := Bool) (fun b18 H25 =>
 ift b18
 (K 2 H25)
 (K 0 H25))
 (fun J19 => ift b10
 (ixs p_s (w .i64 (p_i + 1)) fun c22 =>
 J19 (((c22.toNat : Int) : Int) == 10) H17)
 (J19 false H17)))
 (fun J11 => ift (decide (((w .i64 (p_i + 1)) : Int) < (List.length p_s : Int)))
 (ixs p_s p_i fun c14 =>
 J11 (((c14.toNat : Int) : Int) == 13) H8)
 (J11 false H8))))
 (fun J2 => ift (decide ((p_i : Int) < (List.length p_s : Int)))
 (ixs p_s p_i fun c5 =>
 J2 (((c5.toNat : Int) : Int) == 10) H)
 (J2 false H))

theorem ad_ref28_end (C : Ctx) (p_s : Str) (p_i : Int) (K : Int → Heap → Prop) (H : Heap) (h : sh_ref28_end C p_s p_i K H) : c_ref28_end C p_s p_i K H := by
  refine Spec.enter Tryd.func23 rfl Tryd.ntmps23 rfl ?_
  refine GC.sub [(0, sv p_s), (1, .int .i64 p_i)] ⟨rfl, rfl, trivial⟩ ?_
  refine GC.seq ?_
  refine GC.region ?_
  refine GL.val trivial rfl (OV.assign (v := .int .i64 0) rfl) ?_
  refine GL.nil ?_
  refine GC.seq ?_
  refine GC.seq ?_
  refine GC.region ?_
  refine GL.val trivial rfl (OV.move (v := .int .i64 p_i) rfl) ?_
  refine GL.val trivial rfl (OV.move (v := sv p_s) rfl) ?_
  refine GL.val trivial rfl (OV.lenStr (s := p_s) rfl rfl) ?_
  refine GL.val trivial rfl (OV.ibin (v := .bool (decide ((p_i : Int) < (List.length p_s : Int)))) rfl rfl rfl) ?_
  refine GL.val trivial rfl (OV.move (v := .bool (decide ((p_i : Int) < (List.length p_s : Int)))) rfl) ?_
  obtain ⟨J2, h, hR3⟩ := h
  refine GL.cut (α := Bool) 5 J2 (fun b1 => [(14, .bool b1), (0, sv p_s), (1, .int .i64 p_i)]) ?_ ?_
  · rcases Bool.eq_false_or_eq_true (decide ((p_i : Int) < (List.length p_s : Int))) with hc4 | hc4
    · skip
      replace h := And.left h hc4
      refine GL.val ⟨_, _, rfl, rfl, hc4⟩ rfl (OV.move (v := sv p_s) rfl) ?_
      refine GL.val ⟨_, _, rfl, rfl, hc4⟩ rfl (OV.move (v := .int .i64 p_i) rfl) ?_
      obtain ⟨c5, ha6, hb7, h⟩ := h
      refine GL.val ⟨_, _, rfl, rfl, hc4⟩ rfl (OV.indexStr (s := p_s) rfl rfl rfl ha6 hb7) ?_
      refine GL.val ⟨_, _, rfl, rfl, hc4⟩ rfl (OV.ibin (v := .bool (((c5.toNat : Int) : Int) == 10)) rfl rfl rfl) ?_
      refine GL.val trivial rfl (OV.pickT (b := decide ((p_i : Int) < (List.length p_s : Int))) (v := .bool (((c5.toNat : Int) : Int) == 10)) rfl hc4 rfl) ?_
      exact GL.jump (fun _ _ h => h) (((c5.toNat : Int) : Int) == 10) h ⟨rfl, rfl, rfl, trivial⟩
    · skip
      replace h := And.right h hc4
      refine GL.skip ⟨_, rfl, .inl ⟨_, rfl, hc4⟩⟩ rfl ?_
      refine GL.skip ⟨_, rfl, .inl ⟨_, rfl, hc4⟩⟩ rfl ?_
      refine GL.skip ⟨_, rfl, .inl ⟨_, rfl, hc4⟩⟩ rfl ?_
      refine GL.skip ⟨_, rfl, .inl ⟨_, rfl, hc4⟩⟩ rfl ?_
      refine GL.val trivial rfl (OV.pickF (b := decide ((p_i : Int) < (List.length p_s : Int))) (v := .bool false) rfl hc4 rfl) ?_
      exact GL.jump (fun _ _ h => h) false h ⟨rfl, rfl, rfl, trivial⟩
  intro b1 H8 h
  replace h := hR3 b1 H8 h
  refine GL.nil ?_
  refine GC.cond (b := b1) rfl (fun hc9 => ?_) (fun hc9 => ?_)
  · replace h := And.left h hc9
    refine GC.seq ?_
    refine GC.region ?_
    refine GL.val trivial rfl (OV.assign (v := .int .i64 1) rfl) ?_
    refine GL.nil ?_
    exact GC.ret (fun _ _ hf hs => post_tmp1 rfl rfl hf hs ⟨1, rfl, h⟩)
  · replace h := And.right h hc9
    refine GC.skip ?_
    refine GC.seq ?_
    refine GC.seq ?_
    refine GC.region ?_
    refine GL.val trivial rfl (OV.move (v := .int .i64 p_i) rfl) ?_
    refine GL.val trivial rfl (OV.ibin (v := .int .i64 (w .i64 (p_i + 1))) rfl rfl rfl) ?_
    refine GL.val trivial rfl (OV.move (v := sv p_s) rfl) ?_
    refine GL.val trivial rfl (OV.lenStr (s := p_s) rfl rfl) ?_
    refine GL.val trivial rfl (OV.ibin (v := .bool (decide (((w .i64 (p_i + 1)) : Int) < (List.length p_s : Int)))) rfl rfl rfl) ?_
    refine GL.val trivial rfl (OV.move (v := .bool (decide (((w .i64 (p_i + 1)) : Int) < (List.length p_s : Int)))) rfl) ?_
    obtain ⟨J11, h, hR12⟩ := h
    refine GL.cut (α := Bool) 5 J11 (fun b10 => [(25, .bool b10), (0, sv p_s), (1, .int .i64 p_i)]) ?_ ?_
    · rcases Bool.eq_false_or_eq_true (decide (((w .i64 (p_i + 1)) : Int) < (List.length p_s : Int))) with hc13 | hc13
      · skip
        replace h := And.left h hc13
        refine GL.val ⟨_, _, rfl, rfl, hc13⟩ rfl (OV.move (v := sv p_s) rfl) ?_
        refine GL.val ⟨_, _, rfl, rfl, hc13⟩ rfl (OV.move (v := .int .i64 p_i) rfl) ?_
        obtain ⟨c14, ha15, hb16, h⟩ := h
        refine GL.val ⟨_, _, rfl, rfl, hc13⟩ rfl (OV.indexStr (s := p_s) rfl rfl rfl ha15 hb16) ?_
        refine GL.val ⟨_, _, rfl, rfl, hc13⟩ rfl (OV.ibin (v := .bool (((c14.toNat : Int) : Int) == 13)) rfl rfl rfl) ?_
        refine GL.val trivial rfl (OV.pickT (b := decide (((w .i64 (p_i + 1)) : Int) < (List.length p_s : Int))) (v := .bool (((c14.toNat : Int) : Int) == 13)) rfl hc13 rfl) ?_
        exact GL.jump (fun _ _ h => h) (((c14.toNat : Int) : Int) == 13) h ⟨rfl, rfl, rfl, trivial⟩
      · skip
        replace h := And.right h hc13
        refine GL.skip ⟨_, rfl, .inl ⟨_, rfl, hc13⟩⟩ rfl ?_
        refine GL.skip ⟨_, rfl, .inl ⟨_, rfl, hc13⟩⟩ rfl ?_
        refine GL.skip ⟨_, rfl, .inl ⟨_, rfl, hc13⟩⟩ rfl ?_
        refine GL.skip ⟨_, rfl, .inl ⟨_, rfl, hc13⟩⟩ rfl ?_
        refine GL.val trivial rfl (OV.pickF (b := decide (((w .i64 (p_i + 1)) : Int) < (List.length p_s : Int))) (v := .bool false) rfl hc13 rfl) ?_
        exact GL.jump (fun _ _ h => h) false h ⟨rfl, rfl, rfl, trivial⟩
    intro b10 H17 h
    replace h := hR12 b10 H17 h
    refine GL.val trivial rfl (OV.move (v := .bool b10) rfl) ?_
    obtain ⟨J19, h, hR20⟩ := h
    refine GL.cut (α := Bool) 6 J19 (fun b18 => [(32, .bool b18)]) ?_ ?_
    · rcases Bool.eq_false_or_eq_true b10 with hc21 | hc21
      · skip
        replace h := And.left h hc21
        refine GL.val ⟨_, _, rfl, rfl, hc21⟩ rfl (OV.move (v := sv p_s) rfl) ?_
        refine GL.val ⟨_, _, rfl, rfl, hc21⟩ rfl (OV.move (v := .int .i64 p_i) rfl) ?_
        refine GL.val ⟨_, _, rfl, rfl, hc21⟩ rfl (OV.ibin (v := .int .i64 (w .i64 (p_i + 1))) rfl rfl rfl) ?_
        obtain ⟨c22, ha23, hb24, h⟩ := h
        refine GL.val ⟨_, _, rfl, rfl, hc21⟩ rfl (OV.indexStr (s := p_s) rfl rfl rfl ha23 hb24) ?_
        refine GL.val ⟨_, _, rfl, rfl, hc21⟩ rfl (OV.ibin (v := .bool (((c22.toNat : Int) : Int) == 10)) rfl rfl rfl) ?_
        refine GL.val trivial rfl (OV.pickT (b := b10) (v := .bool (((c22.toNat : Int) : Int) == 10)) rfl hc21 rfl) ?_
        exact GL.jump (fun _ _ h => h) (((c22.toNat : Int) : Int) == 10) h ⟨rfl, trivial⟩
      · skip
        replace h := And.right h hc21
        refine GL.skip ⟨_, rfl, .inl ⟨_, rfl, hc21⟩⟩ rfl ?_
        refine GL.skip ⟨_, rfl, .inl ⟨_, rfl, hc21⟩⟩ rfl ?_
        refine GL.skip ⟨_, rfl, .inl ⟨_, rfl, hc21⟩⟩ rfl ?_
        refine GL.skip ⟨_, rfl, .inl ⟨_, rfl, hc21⟩⟩ rfl ?_
        refine GL.skip ⟨_, rfl, .inl ⟨_, rfl, hc21⟩⟩ rfl ?_
        refine GL.val trivial rfl (OV.pickF (b := b10) (v := .bool false) rfl hc21 rfl) ?_
        exact GL.jump (fun _ _ h => h) false h ⟨rfl, trivial⟩
    intro b18 H25 h
    replace h := hR20 b18 H25 h
    refine GL.nil ?_
    refine GC.cond (b := b18) rfl (fun hc26 => ?_) (fun hc26 => ?_)
    · replace h := And.left h hc26
      refine GC.seq ?_
      refine GC.region ?_
      refine GL.val trivial rfl (OV.assign (v := .int .i64 2) rfl) ?_
      refine GL.nil ?_
      exact GC.ret (fun _ _ hf hs => post_tmp1 rfl rfl hf hs ⟨2, rfl, h⟩)
    · replace h := And.right h hc26
      refine GC.skip ?_
      refine GC.seq ?_
      refine GC.region ?_
      refine GL.val trivial rfl (OV.assign (v := .int .i64 0) rfl) ?_
      refine GL.nil ?_
      exact GC.ret (fun _ _ hf hs => post_tmp1 rfl rfl hf hs ⟨0, rfl, h⟩)

def sh_strings_Builder_WriteString (C : Ctx) (p_b : Option (Nat × Nat)) (p_s : Str) (K : Int → Value → Heap → Prop) (H : Heap) : Prop :=
  c_strings_Builder_copyCheck C p_b (fun H1 =>
 nck p_b fun p2 =>
 ldL H1 (p2.1, p2.2 + 1) fun x4 =>
 apdG 5 [.int .u8 0] 1 x4 (bytesV p_s) (List.length p_s) (fun r6 H7 =>
 nck p_b fun p8 =>
 sttG (p8.1, p8.2 + 1) (slv r6) (fun H10 =>
 K (List.length p_s : Int) .nilIface H10) H7) H1) H

theorem ad_strings_Builder_WriteString (C : Ctx) (p_b : Option (Nat × Nat)) (p_s : Str) (K : Int → Value → Heap → Prop) (H : Heap) (h : sh_strings_Builder_WriteString C p_b p_s K H) : c_strings_Builder_WriteString C p_b p_s K H := by
  refine Spec.enter Tryd.func24 rfl Tryd.ntmps24 rfl ?_
  refine GC.sub [(0, pv p_b), (1, sv p_s)] ⟨rfl, rfl, trivial⟩ ?_
  refine GC.seq ?_
  refine GC.region ?_
  refine GL.val trivial rfl (OV.assign (v := .int .i64 0) rfl) ?_
  refine GL.val trivial rfl (OV.assign (v := .nilIface) rfl) ?_
  refine GL.nil ?_
  refine GC.seq ?_
  refine GC.region ?_
  refine GL.val trivial rfl (OV.move (v := pv p_b) rfl) ?_
  refine GL.call h trivial rfl ok_strings_Builder_copyCheck (vs := [pv p_b]) rfl ?_
  rintro _ H1 ⟨rfl, h⟩
  refine GL.nil ?_
  refine GC.seq ?_
  refine GC.region ?_
  refine GL.val trivial rfl (OV.move (v := pv p_b) rfl) ?_
  refine GL.val trivial rfl (OV.move (v := pv p_b) rfl) ?_
  obtain ⟨p2, hp3, h⟩ := h
  refine GL.val trivial rfl (OV.nilCheck (q := p_b) rfl hp3) ?_
  refine GL.val trivial rfl (OV.fieldAddr (p := p2) rfl rfl) ?_
  obtain ⟨x4, hr5, h⟩ := h
  refine GL.val trivial rfl (OV.load (p := (p2.1, p2.2 + 1)) rfl rfl hr5) ?_
  refine GL.val trivial rfl (OV.move (v := sv p_s) rfl) ?_
  refine GL.appendGStr (e := 5) (s := x4) (u := p_s) (bytes := 1) h trivial rfl rfl rfl ⟨⟨_, _, rfl, rfl, rfl, rfl, rfl, rfl⟩⟩ rfl ?_
  intro r6 H7 h
  obtain ⟨p8, hp9, h⟩ := h
  refine GL.val trivial rfl (OV.nilCheck (q := p_b) rfl hp9) ?_
  refine GL.val trivial rfl (OV.fieldAddr (p := p8) rfl rfl) ?_
  refine GL.storeG (p := (p8.1, p8.2 + 1)) (v := slv r6) h trivial rfl rfl rfl rfl ?_
  intro H10 h
  refine GL.nil ?_
  refine GC.seq ?_
  refine GC.region ?_
  refine GL.val trivial rfl (OV.move (v := sv p_s) rfl) ?_
  refine GL.val trivial rfl (OV.lenStr (s := p_s) rfl rfl) ?_
  refine GL.val trivial rfl (OV.assign (v := .int .i64 (List.length p_s : Int)) rfl) ?_
  refine GL.val trivial rfl (OV.assign (v := .nilIface) rfl) ?_
  refine GL.nil ?_
  exact GC.ret (fun _ _ hf hs => post_tmp2 rfl rfl rfl hf hs ⟨(List.length p_s : Int), .nilIface, rfl, h⟩)

def sh_csv_own (C : Ctx) (p_s : Str) (K : Str → Heap → Prop) (H : Heap) : Prop :=
  c_strings_Contains C p_s [34] (fun r1 H2 =>
 jn (α := Bool) (fun b3 H9 =>
 jn (α := Bool) (fun b10 H16 =>
 jn (α := Bool) (fun b17 H23 =>
 ift b17
 (K p_s H23)
 (c_strings_ReplaceAll C p_s [34] [34, 34] (fun r25 H26 =>
 catOk ([34] : Str) r25 ∧
 catOk (([34] : Str) ++ r25) ([34] : Str) ∧
 K ((([34] : Str) ++ r25) ++ ([34] : Str)) H26) H23))
 (fun J18 => ift b10
 (c_strings_Contains C p_s [13] (fun r21 H22 =>
 J18 (!r21) H22) H16)
 (J18 false H16)))
 (fun J11 => ift b3
 (c_strings_Contains C p_s [10] (fun r14 H15 =>
 J11 (!r14) H15) H9)
 (J11 false H9)))
 (fun J4 => ift (!r1)
 (c_strings_Contains C p_s [44] (fun r7 H8 =>
 J4 (!r7) H8) H2)
 (J4 false H2))) H

theorem ad_csv_own (C : Ctx) (p_s : Str) (K : Str → Heap → Prop) (H : Heap) (h : sh_csv_own C p_s K H) : c_csv_own C p_s K H := by
  refine Spec.enter Tryd.func25 rfl Tryd.ntmps25 rfl ?_
  refine GC.sub [(0, sv p_s)] ⟨rfl, trivial⟩ ?_
  refine GC.seq ?_
  refine GC.region ?_
  refine GL.val trivial rfl (OV.assign (v := sv []) rfl) ?_
  refine GL.nil ?_
  refine GC.seq ?_
  refine GC.seq ?_
  refine GC.region ?_
  refine GL.val trivial rfl (OV.move (v := sv p_s) rfl) ?_
  refine GL.call h trivial rfl ok_strings_Contains (vs := [sv p_s, sv [34]]) rfl ?_
  rintro _ H2 ⟨r1, rfl, h⟩
  refine GL.val trivial rfl (OV.not rfl) ?_
  refine GL.val trivial rfl (OV.move (v := .bool (!r1)) rfl) ?_
  obtain ⟨J4, h, hR5⟩ := h
  refine GL.cut (α := Bool) 4 J4 (fun b3 => [(10, .bool b3), (0, sv p_s)]) ?_ ?_
  · rcases Bool.eq_false_or_eq_true (!r1) with hc6 | hc6
    · skip
      replace h := And.left h hc6
      refine GL.val ⟨_, _, rfl, rfl, hc6⟩ rfl (OV.move (v := sv p_s) rfl) ?_
      refine GL.call h ⟨_, _, rfl, rfl, hc6⟩ rfl ok_strings_Contains (vs := [sv p_s, sv [44]]) rfl ?_
      rintro _ H8 ⟨r7, rfl, h⟩
      refine GL.val ⟨_, _, rfl, rfl, hc6⟩ rfl (OV.not rfl) ?_
      refine GL.val trivial rfl (OV.pickT (b := !r1) (v := .bool (!r7)) rfl hc6 rfl) ?_
      exact GL.jump (fun _ _ h => h) (!r7) h ⟨rfl, rfl, trivial⟩
    · skip
      replace h := And.right h hc6
      refine GL.skip ⟨_, rfl, .inl ⟨_, rfl, hc6⟩⟩ rfl ?_
      refine GL.skip ⟨_, rfl, .inl ⟨_, rfl, hc6⟩⟩ rfl ?_
      refine GL.skip ⟨_, rfl, .inl ⟨_, rfl, hc6⟩⟩ rfl ?_
      refine GL.val trivial rfl (OV.pickF (b := !r1) (v := .bool false) rfl hc6 rfl) ?_
      exact GL.jump (fun _ _ h => h) false h ⟨rfl, rfl, trivial⟩
  intro b3 H9 h
  replace h := hR5 b3 H9 h
  refine GL.val trivial rfl (OV.move (v := .bool b3) rfl) ?_
  obtain ⟨J11, h, hR12⟩ := h
  refine GL.cut (α := Bool) 4 J11 (fun b10 => [(15, .bool b10), (0, sv p_s)]) ?_ ?_
  · rcases Bool.eq_false_or_eq_true b3 with hc13 | hc13
    · skip
      replace h := And.left h hc13
      refine GL.val ⟨_, _, rfl, rfl, hc13⟩ rfl (OV.move (v := sv p_s) rfl) ?_
      refine GL.call h ⟨_, _, rfl, rfl, hc13⟩ rfl ok_strings_Contains (vs := [sv p_s, sv [10]]) rfl ?_
      rintro _ H15 ⟨r14, rfl, h⟩
      refine GL.val ⟨_, _, rfl, rfl, hc13⟩ rfl (OV.not rfl) ?_
      refine GL.val trivial rfl (OV.pickT (b := b3) (v := .bool (!r14)) rfl hc13 rfl) ?_
      exact GL.jump (fun _ _ h => h) (!r14) h ⟨rfl, rfl, trivial⟩
    · skip
      replace h := And.right h hc13
      refine GL.skip ⟨_, rfl, .inl ⟨_, rfl, hc13⟩⟩ rfl ?_
      refine GL.skip ⟨_, rfl, .inl ⟨_, rfl, hc13⟩⟩ rfl ?_
      refine GL.skip ⟨_, rfl, .inl ⟨_, rfl, hc13⟩⟩ rfl ?_
      refine GL.val trivial rfl (OV.pickF (b := b3) (v := .bool false) rfl hc13 rfl) ?_
      exact GL.jump (fun _ _ h => h) false h ⟨rfl, rfl, trivial⟩
  intro b10 H16 h
  replace h := hR12 b10 H16 h
  refine GL.val trivial rfl (OV.move (v := .bool b10) rfl) ?_
  obtain ⟨J18, h, hR19⟩ := h
  refine GL.cut (α := Bool) 4 J18 (fun b17 => [(20, .bool b17), (0, sv p_s)]) ?_ ?_
  · rcases Bool.eq_false_or_eq_true b10 with hc20 | hc20
    · skip
      replace h := And.left h hc20
      refine GL.val ⟨_, _, rfl, rfl, hc20⟩ rfl (OV.move (v := sv p_s) rfl) ?_
      refine GL.call h ⟨_, _, rfl, rfl, hc20⟩ rfl ok_strings_Contains (vs := [sv p_s, sv [13]]) rfl ?_
      rintro _ H22 ⟨r21, rfl, h⟩
      refine GL.val ⟨_, _, rfl, rfl, hc20⟩ rfl (OV.not rfl) ?_
      refine GL.val trivial rfl (OV.pickT (b := b10) (v := .bool (!r21)) rfl hc20 rfl) ?_
      exact GL.jump (fun _ _ h => h) (!r21) h ⟨rfl, rfl, trivial⟩
    · skip
      replace h := And.right h hc20
      refine GL.skip ⟨_, rfl, .inl ⟨_, rfl, hc20⟩⟩ rfl ?_
      refine GL.skip ⟨_, rfl, .inl ⟨_, rfl, hc20⟩⟩ rfl ?_
      refine GL.skip ⟨_, rfl, .inl ⟨_, rfl, hc20⟩⟩ rfl ?_
      refine GL.val trivial rfl (OV.pickF (b := b10) (v := .bool false) rfl hc20 rfl) ?_
      exact GL.jump (fun _ _ h => h) false h ⟨rfl, rfl, trivial⟩
  intro b17 H23 h
  replace h := hR19 b17 H23 h
  refine GL.nil ?_
  refine GC.cond (b := b17) rfl (fun hc24 => ?_) (fun hc24 => ?_)
  · replace h := And.left h hc24
    refine GC.seq ?_
    refine GC.region ?_
    refine GL.val trivial rfl (OV.move (v := sv p_s) rfl) ?_
    refine GL.val trivial rfl (OV.assign (v := sv p_s) rfl) ?_
    refine GL.nil ?_
    exact GC.ret (fun _ _ hf hs => post_tmp1 rfl rfl hf hs ⟨p_s, rfl, h⟩)
  · replace h := And.right h hc24
    refine GC.skip ?_
    refine GC.seq ?_
    refine GC.region ?_
    refine GL.val trivial rfl (OV.move (v := sv p_s) rfl) ?_
    refine GL.call h trivial rfl ok_strings_ReplaceAll (vs := [sv p_s, sv [34], sv [34, 34]]) rfl ?_
    rintro _ H26 ⟨r25, rfl, h⟩
    obtain ⟨hl27, h⟩ := h
    refine GL.val trivial rfl (OV.cat (a := ([34] : Str)) (b := r25) rfl rfl hl27) ?_
    obtain ⟨hl28, h⟩ := h
    refine GL.val trivial rfl (OV.cat (a := (([34] : Str) ++ r25)) (b := ([34] : Str)) rfl rfl hl28) ?_
    refine GL.val trivial rfl (OV.assign (v := sv ((([34] : Str) ++ r25) ++ ([34] : Str))) rfl) ?_
    refine GL.nil ?_
    exact GC.ret (fun _ _ hf hs => post_tmp1 rfl rfl hf hs ⟨((([34] : Str) ++ r25) ++ ([34] : Str)), rfl, h⟩)

def sh_ref28_Own (C : Ctx) (p_s : Str) (K : Str → Heap → Prop) (H : Heap) : Prop :=
  lp (α := Bool × Int) (true, 0) H (fun x1 J2 H3 =>
 ift (decide ((x1.2 : Int) < (List.length p_s : Int)))
 (jn (α := Bool) (fun b5 H12 =>
 jn (α := Bool) (fun b13 H20 =>
 jn (α := Bool) (fun b21 H28 =>
 jn (α := Bool) (fun b29 H36 =>
 J2 (b29, (w .i64 (x1.2 + 1))) H36)
 (fun J30 => ift b21
 (ixs p_s x1.2 fun c33 =>
 J30 (((c33.toNat : Int) : Int) != 13) H28)
 (J30 false H28)))
 (fun J22 => ift b13
 (ixs p_s x1.2 fun c25 =>
 J22 (((c25.toNat : Int) : Int) != 10) H20)
 (J22 false H20)))
 (fun J14 => ift b5
 (ixs p_s x1.2 fun c17 =>
 J14 (((c17.toNat : Int) : Int) != 44) H12)
 (J14 false H12)))
 (fun J6 => ift x1.1
 (ixs p_s x1.2 fun c9 =>
 J6 (((c9.toNat : Int) : Int) != 34) H3)
 (J6 false H3)))
 (ift x1.1
 (K p_s H3)
 (nw ([.int .u8 34]) (fun b38 H39 =>
 lp (α := Sl × Int) ((Sl.of (some (b38, 0)) 1 1), 0) H39 (fun x40 J41 H42 =>
 ift (decide ((x40.2 : Int) < (List.length p_s : Int)))
 (jn (α := Sl) (fun x45 H46 =>
 ixs p_s x40.2 fun c54 =>
 apd ([.int .u8 0]) 1 x45 ([.int .u8 (c54.toNat : Int)]) 1 (fun r57 H58 =>
 J41 (r57, (w .i64 (x40.2 + 1))) H58) H46)
 (fun J44 => ixs p_s x40.2 fun c48 =>
 ift (((c48.toNat : Int) : Int) == 34)
 (apd ([.int .u8 0]) 1 x40.1 ([.int .u8 34]) 1 (fun r52 H53 =>
 J44 r52 H53) H42)
 (J44 x40.1 H42)))
 (apd ([.int .u8 0]) 1 x40.1 ([.int .u8 34]) 1 (fun r59 H60 =>
 b2s r59 (fun t61 =>
 K t61 H60) H60) H42))) H3)))

theorem ad_ref28_Own (C : Ctx) (p_s : Str) (K : Str → Heap → Prop) (H : Heap) (h : sh_ref28_Own C p_s K H) : c_ref28_Own C p_s K H := by
  refine Spec.enter Tryd.func26 rfl Tryd.ntmps26 rfl ?_
  refine GC.sub [(0, sv p_s)] ⟨rfl, trivial⟩ ?_
  refine GC.seq ?_
  refine GC.region ?_
  refine GL.val trivial rfl (OV.assign (v := sv []) rfl) ?_
  refine GL.nil ?_
  refine GC.seq ?_
  refine GC.region ?_
  refine GL.val trivial rfl (OV.assign (v := .bool true) rfl) ?_
  refine GL.nil ?_
  refine GC.seq ?_
  refine GC.seq ?_
  refine GC.region ?_
  refine GL.val trivial rfl (OV.assign (v := .int .i64 0) rfl) ?_
  refine GL.nil ?_
  refine GC.block ?_
  refine GC.loop (α := Bool × Int) h (fun x1 => [(3, .bool x1.1), (4, .int .i64 x1.2), (0, sv p_s)]) ⟨rfl, rfl, rfl, trivial⟩ ?_
  intro x1 H3 J2 h
  refine GC.seq ?_
  refine GC.seq ?_
  refine GC.region ?_
  refine GL.val trivial rfl (OV.move (v := .int .i64 x1.2) rfl) ?_
  refine GL.val trivial rfl (OV.move (v := sv p_s) rfl) ?_
  refine GL.val trivial rfl (OV.lenStr (s := p_s) rfl rfl) ?_
  refine GL.val trivial rfl (OV.ibin (v := .bool (decide ((x1.2 : Int) < (List.length p_s : Int)))) rfl rfl rfl) ?_
  refine GL.nil ?_
  refine GC.cond (b := decide ((x1.2 : Int) < (List.length p_s : Int))) rfl (fun hc4 => ?_) (fun hc4 => ?_)
  · replace h := And.left h hc4
    refine GC.skip ?_
    refine GC.seq ?_
    refine GC.block ?_
    refine GC.region ?_
    refine GL.val trivial rfl (OV.move (v := .bool x1.1) rfl) ?_
    refine GL.val trivial rfl (OV.move (v := .bool x1.1) rfl) ?_
    obtain ⟨J6, h, hR7⟩ := h
    refine GL.cut (α := Bool) 5 J6 (fun b5 => [(19, .bool b5), (0, sv p_s), (4, .int .i64 x1.2)]) ?_ ?_
    · rcases Bool.eq_false_or_eq_true x1.1 with hc8 | hc8
      · skip
        replace h := And.left h hc8
        refine GL.val ⟨_, _, rfl, rfl, hc8⟩ rfl (OV.move (v := sv p_s) rfl) ?_
        refine GL.val ⟨_, _, rfl, rfl, hc8⟩ rfl (OV.move (v := .int .i64 x1.2) rfl) ?_
        obtain ⟨c9, ha10, hb11, h⟩ := h
        refine GL.val ⟨_, _, rfl, rfl, hc8⟩ rfl (OV.indexStr (s := p_s) rfl rfl rfl ha10 hb11) ?_
        refine GL.val ⟨_, _, rfl, rfl, hc8⟩ rfl (OV.ibin (v := .bool (((c9.toNat : Int) : Int) != 34)) rfl rfl rfl) ?_
        refine GL.val trivial rfl (OV.pickT (b := x1.1) (v := .bool (((c9.toNat : Int) : Int) != 34)) rfl hc8 rfl) ?_
        exact GL.jump (fun _ _ h => h) (((c9.toNat : Int) : Int) != 34) h ⟨rfl, rfl, rfl, trivial⟩
      · skip
        replace h := And.right h hc8
        refine GL.skip ⟨_, rfl, .inl ⟨_, rfl, hc8⟩⟩ rfl ?_
        refine GL.skip ⟨_, rfl, .inl ⟨_, rfl, hc8⟩⟩ rfl ?_
        refine GL.skip ⟨_, rfl, .inl ⟨_, rfl, hc8⟩⟩ rfl ?_
        refine GL.skip ⟨_, rfl, .inl ⟨_, rfl, hc8⟩⟩ rfl ?_
        refine GL.val trivial rfl (OV.pickF (b := x1.1) (v := .bool false) rfl hc8 rfl) ?_
        exact GL.jump (fun _ _ h => h) false h ⟨rfl, rfl, rfl, trivial⟩
    intro b5 H12 h
    replace h := hR7 b5 H12 h
    refine GL.val trivial rfl (OV.move (v := .bool b5) rfl) ?_
    obtain ⟨J14, h, hR15⟩ := h
    refine GL.cut (α := Bool) 5 J14 (fun b13 => [(25, .bool b13), (0, sv p_s), (4, .int .i64 x1.2)]) ?_ ?_
    · rcases Bool.eq_false_or_eq_true b5 with hc16 | hc16
      · skip
        replace h := And.left h hc16
        refine GL.val ⟨_, _, rfl, rfl, hc16⟩ rfl (OV.move (v := sv p_s) rfl) ?_
        refine GL.val ⟨_, _, rfl, rfl, hc16⟩ rfl (OV.move (v := .int .i64 x1.2) rfl) ?_
        obtain ⟨c17, ha18, hb19, h⟩ := h
        refine GL.val ⟨_, _, rfl, rfl, hc16⟩ rfl (OV.indexStr (s := p_s) rfl rfl rfl ha18 hb19) ?_
        refine GL.val ⟨_, _, rfl, rfl, hc16⟩ rfl (OV.ibin (v := .bool (((c17.toNat : Int) : Int) != 44)) rfl rfl rfl) ?_
        refine GL.val trivial rfl (OV.pickT (b := b5) (v := .bool (((c17.toNat : Int) : Int) != 44)) rfl hc16 rfl) ?_
        exact GL.jump (fun _ _ h => h) (((c17.toNat : Int) : Int) != 44) h ⟨rfl, rfl, rfl, trivial⟩
      · skip
        replace h := And.right h hc16
        refine GL.skip ⟨_, rfl, .inl ⟨_, rfl, hc16⟩⟩ rfl ?_
        refine GL.skip ⟨_, rfl, .inl ⟨_, rfl, hc16⟩⟩ rfl ?_
        refine GL.skip ⟨_, rfl, .inl ⟨_, rfl, hc16⟩⟩ rfl ?_
        refine GL.skip ⟨_, rfl, .inl ⟨_, rfl, hc16⟩⟩ rfl ?_
        refine GL.val trivial rfl (OV.pickF (b := b5) (v := .bool false) rfl hc16 rfl) ?_
        exact GL.jump (fun _ _ h => h) false h ⟨rfl, rfl, rfl, trivial⟩
    intro b13 H20 h
    replace h := hR15 b13 H20 h
    refine GL.val trivial rfl (OV.move (v := .bool b13) rfl) ?_
    obtain ⟨J22, h, hR23⟩ := h
    refine GL.cut (α := Bool) 5 J22 (fun b21 => [(31, .bool b21), (0, sv p_s), (4, .int .i64 x1.2)]) ?_ ?_
    · rcases Bool.eq_false_or_eq_true b13 with hc24 | hc24
      · skip
        replace h := And.left h hc24
        refine GL.val ⟨_, _, rfl, rfl, hc24⟩ rfl (OV.move (v := sv p_s) rfl) ?_
        refine GL.val ⟨_, _, rfl, rfl, hc24⟩ rfl (OV.move (v := .int .i64 x1.2) rfl) ?_
        obtain ⟨c25, ha26, hb27, h⟩ := h
        refine GL.val ⟨_, _, rfl, rfl, hc24⟩ rfl (OV.indexStr (s := p_s) rfl rfl rfl ha26 hb27) ?_
        refine GL.val ⟨_, _, rfl, rfl, hc24⟩ rfl (OV.ibin (v := .bool (((c25.toNat : Int) : Int) != 10)) rfl rfl rfl) ?_
        refine GL.val trivial rfl (OV.pickT (b := b13) (v := .bool (((c25.toNat : Int) : Int) != 10)) rfl hc24 rfl) ?_
        exact GL.jump (fun _ _ h => h) (((c25.toNat : Int) : Int) != 10) h ⟨rfl, rfl, rfl, trivial⟩
      · skip
        replace h := And.right h hc24
        refine GL.skip ⟨_, rfl, .inl ⟨_, rfl, hc24⟩⟩ rfl ?_
        refine GL.skip ⟨_, rfl, .inl ⟨_, rfl, hc24⟩⟩ rfl ?_
        refine GL.skip ⟨_, rfl, .inl ⟨_, rfl, hc24⟩⟩ rfl ?_
        refine GL.skip ⟨_, rfl, .inl ⟨_, rfl, hc24⟩⟩ rfl ?_
        refine GL.val trivial rfl (OV.pickF (b := b13) (v := .bool false) rfl hc24 rfl) ?_
        exact GL.jump (fun _ _ h => h) false h ⟨rfl, rfl, rfl, trivial⟩
    intro b21 H28 h
    replace h := hR23 b21 H28 h
    refine GL.val trivial rfl (OV.move (v := .bool b21) rfl) ?_
    obtain ⟨J30, h, hR31⟩ := h
    refine GL.cut (α := Bool) 5 J30 (fun b29 => [(37, .bool b29), (0, sv p_s), (4, .int .i64 x1.2)]) ?_ ?_
    · rcases Bool.eq_false_or_eq_true b21 with hc32 | hc32
      · skip
        replace h := And.left h hc32
        refine GL.val ⟨_, _, rfl, rfl, hc32⟩ rfl (OV.move (v := sv p_s) rfl) ?_
        refine GL.val ⟨_, _, rfl, rfl, hc32⟩ rfl (OV.move (v := .int .i64 x1.2) rfl) ?_
        obtain ⟨c33, ha34, hb35, h⟩ := h
        refine GL.val ⟨_, _, rfl, rfl, hc32⟩ rfl (OV.indexStr (s := p_s) rfl rfl rfl ha34 hb35) ?_
        refine GL.val ⟨_, _, rfl, rfl, hc32⟩ rfl (OV.ibin (v := .bool (((c33.toNat : Int) : Int) != 13)) rfl rfl rfl) ?_
        refine GL.val trivial rfl (OV.pickT (b := b21) (v := .bool (((c33.toNat : Int) : Int) != 13)) rfl hc32 rfl) ?_
        exact GL.jump (fun _ _ h => h) (((c33.toNat : Int) : Int) != 13) h ⟨rfl, rfl, rfl, trivial⟩
      · skip
        replace h := And.right h hc32
        refine GL.skip ⟨_, rfl, .inl ⟨_, rfl, hc32⟩⟩ rfl ?_
        refine GL.skip ⟨_, rfl, .inl ⟨_, rfl, hc32⟩⟩ rfl ?_
        refine GL.skip ⟨_, rfl, .inl ⟨_, rfl, hc32⟩⟩ rfl ?_
        refine GL.skip ⟨_, rfl, .inl ⟨_, rfl, hc32⟩⟩ rfl ?_
        refine GL.val trivial rfl (OV.pickF (b := b21) (v := .bool false) rfl hc32 rfl) ?_
        exact GL.jump (fun _ _ h => h) false h ⟨rfl, rfl, rfl, trivial⟩
    intro b29 H36 h
    replace h := hR31 b29 H36 h
    refine GL.val trivial rfl (OV.assign (v := .bool b29) rfl) ?_
    refine GL.nil_to (fun _ _ h => h) ?_
    refine GC.region ?_
    refine GL.val trivial rfl (OV.move (v := .int .i64 x1.2) rfl) ?_
    refine GL.val trivial rfl (OV.ibin (v := .int .i64 (w .i64 (x1.2 + 1))) rfl rfl rfl) ?_
    refine GL.val trivial rfl (OV.assign (v := .int .i64 (w .i64 (x1.2 + 1))) rfl) ?_
    exact GL.jump (fun _ _ h => h) (b29, (w .i64 (x1.2 + 1))) h ⟨rfl, rfl, rfl, trivial⟩
  · replace h := And.right h hc4
    refine GC.exit_to (fun _ _ h => h) ?_
    refine GC.seq ?_
    refine GC.seq ?_
    refine GC.region ?_
    refine GL.val trivial rfl (OV.move (v := .bool x1.1) rfl) ?_
    refine GL.nil ?_
    refine GC.cond (b := x1.1) rfl (fun hc37 => ?_) (fun hc37 => ?_)
    · replace h := And.left h hc37
      refine GC.seq ?_
      refine GC.region ?_
      refine GL.val trivial rfl (OV.move (v := sv p_s) rfl) ?_
      refine GL.val trivial rfl (OV.assign (v := sv p_s) rfl) ?_
      refine GL.nil ?_
      exact GC.ret (fun _ _ hf hs => post_tmp1 rfl rfl hf hs ⟨p_s, rfl, h⟩)
    · replace h := And.right h hc37
      refine GC.skip ?_
      refine GC.seq ?_
      refine GC.region ?_
      refine GL.buildSlice (cs := [.int .u8 34]) h trivial rfl (vs := [(0, .int .u8 34)]) rfl ⟨5, fun _ => by kernel_rfl⟩ ?_
      intro b38 H39 h
      refine GL.val trivial rfl (OV.assign (v := slv (Sl.of (some (b38, 0)) 1 1)) rfl) ?_
      refine GL.nil ?_
      refine GC.seq ?_
      refine GC.seq ?_
      refine GC.region ?_
      refine GL.val trivial rfl (OV.assign (v := .int .i64 0) rfl) ?_
      refine GL.nil ?_
      refine GC.block ?_
      refine GC.loop (α := Sl × Int) h (fun x40 => [(5, slv x40.1), (6, .int .i64 x40.2), (0, sv p_s)]) ⟨rfl, rfl, rfl, trivial⟩ ?_
      intro x40 H42 J41 h
      refine GC.seq ?_
      refine GC.seq ?_
      refine GC.region ?_
      refine GL.val trivial rfl (OV.move (v := .int .i64 x40.2) rfl) ?_
      refine GL.val trivial rfl (OV.move (v := sv p_s) rfl) ?_
      refine GL.val trivial rfl (OV.lenStr (s := p_s) rfl rfl) ?_
      refine GL.val trivial rfl (OV.ibin (v := .bool (decide ((x40.2 : Int) < (List.length p_s : Int)))) rfl rfl rfl) ?_
      refine GL.nil ?_
      refine GC.cond (b := decide ((x40.2 : Int) < (List.length p_s : Int))) rfl (fun hc43 => ?_) (fun hc43 => ?_)
      · replace h := And.left h hc43
        refine GC.skip ?_
        refine GC.seq ?_
        refine GC.block ?_
        obtain ⟨J44, h, hR47⟩ := h
        refine GC.join (α := Sl) J44 (fun x45 => [(5, slv x45), (0, sv p_s), (6, .int .i64 x40.2)]) ?_ ?_
        · skip
          refine GC.seq ?_
          refine GC.region ?_
          refine GL.val trivial rfl (OV.move (v := sv p_s) rfl) ?_
          refine GL.val trivial rfl (OV.move (v := .int .i64 x40.2) rfl) ?_
          obtain ⟨c48, ha49, hb50, h⟩ := h
          refine GL.val trivial rfl (OV.indexStr (s := p_s) rfl rfl rfl ha49 hb50) ?_
          refine GL.val trivial rfl (OV.ibin (v := .bool (((c48.toNat : Int) : Int) == 34)) rfl rfl rfl) ?_
          refine GL.nil ?_
          refine GC.cond (b := ((c48.toNat : Int) : Int) == 34) rfl (fun hc51 => ?_) (fun hc51 => ?_)
          · replace h := And.left h hc51
            refine GC.region ?_
            refine GL.val trivial rfl (OV.move (v := slv x40.1) rfl) ?_
            refine GL.appendLit (s := x40.1) (ys := [.int .u8 34]) (zc := [.int .u8 0]) (bytes := 1) h trivial rfl (fun _ => trivial) rfl (fun _ => rfl) (fun _ => rfl) (vs := [(0, .int .u8 34)]) rfl ⟨5, fun _ => by kernel_rfl⟩ ⟨⟨_, _, _, rfl, rfl, rfl, rfl, rfl, rfl⟩⟩ rfl rfl ?_
            intro _ r52 H53 h
            refine GL.val trivial rfl (OV.assign (v := slv r52) rfl) ?_
            exact GL.jump (fun _ _ h => h) r52 h ⟨rfl, rfl, rfl, trivial⟩
          · replace h := And.right h hc51
            exact GC.jump (fun _ _ h => h) x40.1 h ⟨rfl, rfl, rfl, trivial⟩
        · intro x45 H46 h
          replace h := hR47 x45 H46 h
          refine GC.region ?_
          refine GL.val trivial rfl (OV.move (v := slv x45) rfl) ?_
          refine GL.val trivial rfl (OV.move (v := sv p_s) rfl) ?_
          refine GL.val trivial rfl (OV.move (v := .int .i64 x40.2) rfl) ?_
          obtain ⟨c54, ha55, hb56, h⟩ := h
          refine GL.val trivial rfl (OV.indexStr (s := p_s) rfl rfl rfl ha55 hb56) ?_
          refine GL.appendLit (s := x45) (ys := [.int .u8 (c54.toNat : Int)]) (zc := [.int .u8 0]) (bytes := 1) h trivial rfl (fun _ => trivial) rfl (fun _ => rfl) (fun _ => rfl) (vs := [(0, .int .u8 (c54.toNat : Int))]) rfl ⟨5, fun _ => by kernel_rfl⟩ ⟨⟨_, _, _, rfl, rfl, rfl, rfl, rfl, rfl⟩⟩ rfl rfl ?_
          intro _ r57 H58 h
          refine GL.val trivial rfl (OV.assign (v := slv r57) rfl) ?_
          refine GL.nil_to (fun _ _ h => h) ?_
          refine GC.region ?_
          refine GL.val trivial rfl (OV.move (v := .int .i64 x40.2) rfl) ?_
          refine GL.val trivial rfl (OV.ibin (v := .int .i64 (w .i64 (x40.2 + 1))) rfl rfl rfl) ?_
          refine GL.val trivial rfl (OV.assign (v := .int .i64 (w .i64 (x40.2 + 1))) rfl) ?_
          exact GL.jump (fun _ _ h => h) (r57, (w .i64 (x40.2 + 1))) h ⟨rfl, rfl, rfl, trivial⟩
      · replace h := And.right h hc43
        refine GC.exit_to (fun _ _ h => h) ?_
        refine GC.seq ?_
        refine GC.region ?_
        refine GL.val trivial rfl (OV.move (v := slv x40.1) rfl) ?_
        refine GL.appendLit (s := x40.1) (ys := [.int .u8 34]) (zc := [.int .u8 0]) (bytes := 1) h trivial rfl (fun _ => trivial) rfl (fun _ => rfl) (fun _ => rfl) (vs := [(0, .int .u8 34)]) rfl ⟨5, fun _ => by kernel_rfl⟩ ⟨⟨_, _, _, rfl, rfl, rfl, rfl, rfl, rfl⟩⟩ rfl rfl ?_
        intro _ r59 H60 h
        refine GL.val trivial rfl (OV.assign (v := slv r59) rfl) ?_
        refine GL.nil ?_
        refine GC.seq ?_
        refine GC.region ?_
        refine GL.val trivial rfl (OV.move (v := slv r59) rfl) ?_
        obtain ⟨t61, h62, h63, h⟩ := h
        refine GL.val trivial rfl (OV.b2s (b := r59) (s := t61) h62 h63 rfl rfl rfl rfl) ?_
        refine GL.val trivial rfl (OV.assign (v := sv t61) rfl) ?_
        refine GL.nil ?_
        exact GC.ret (fun _ _ hf hs => post_tmp1 rfl rfl hf hs ⟨t61, rfl, h⟩)

def sh_strings_Builder_copyCheck (C : Ctx) (p_b : Option (Nat × Nat)) (K : Heap → Prop) (H : Heap) : Prop :=
  nck p_b fun p1 =>
 ldP H (p1.1, p1.2 + 0) fun x3 =>
 ift (Option.isNone x3)
 (∃ p7, p_b = some p7 ∧ cvU p7 (
 cvP 42 2 p7 (
 nck p_b fun p10 =>
 sttG (p10.1, p10.2 + 0) (pv (some p7)) (fun H12 =>
 K H12) H) H) H)
 (nck p_b fun p13 =>
 ldP H (p13.1, p13.2 + 0) fun x15 =>
 ∃ p17, x15 = some p17 ∧ p_b = some p17 ∧
 ift false
 (False)
 (K H))

theorem ad_strings_Builder_copyCheck (C : Ctx) (p_b : Option (Nat × Nat)) (K : Heap → Prop) (H : Heap) (h : sh_strings_Builder_copyCheck C p_b K H) : c_strings_Builder_copyCheck C p_b K H := by
  refine Spec.enter Tryd.func27 rfl Tryd.ntmps27 rfl ?_
  refine GC.sub [(0, pv p_b)] ⟨rfl, trivial⟩ ?_
  refine GC.seq ?_
  refine GC.region ?_
  refine GL.val trivial rfl (OV.move (v := pv p_b) rfl) ?_
  obtain ⟨p1, hp2, h⟩ := h
  refine GL.val trivial rfl (OV.nilCheck (q := p_b) rfl hp2) ?_
  refine GL.val trivial rfl (OV.fieldAddr (p := p1) rfl rfl) ?_
  obtain ⟨x3, hr4, h⟩ := h
  refine GL.val trivial rfl (OV.load (p := (p1.1, p1.2 + 0)) rfl rfl hr4) ?_
  refine GL.val trivial rfl (OV.eqlNil (p := x3) rfl rfl rfl) ?_
  refine GL.nil ?_
  refine GC.cond (b := Option.isNone x3) rfl (fun hc5 => ?_) (fun hc5 => ?_)
  · replace h := And.left h hc5
    refine GC.region ?_
    refine GL.val trivial rfl (OV.move (v := pv p_b) rfl) ?_
    refine GL.val trivial rfl (OV.move (v := pv p_b) rfl) ?_
    obtain ⟨p7, hp8, hu6, h⟩ := h
    refine GL.val trivial rfl (OV.cvU (q := p_b) (p := p7) hp8 hu6 rfl rfl rfl ⟨_, rfl, by decide⟩) ?_
    refine GL.val trivial rfl (OV.ext ext_internal_abi_NoEscape (vs := [pv (some p7)]) (v := pv (some p7)) rfl (fun w => run_same _ w)) ?_
    obtain ⟨hu9, h⟩ := h
    refine GL.val trivial rfl (OV.cvP (T := 42) (len := 2) (p := p7) hu9 rfl rfl rfl ⟨_, rfl⟩ (by kernel_rfl)) ?_
    obtain ⟨p10, hp11, h⟩ := h
    refine GL.val trivial rfl (OV.nilCheck (q := p_b) rfl hp11) ?_
    refine GL.val trivial rfl (OV.fieldAddr (p := p10) rfl rfl) ?_
    refine GL.storeG (p := (p10.1, p10.2 + 0)) (v := pv (some p7)) h trivial rfl rfl rfl rfl ?_
    intro H12 h
    exact GL.ends (fun _ _ hf hs => post_tmp0 rfl hf hs ⟨rfl, h⟩)
  · replace h := And.right h hc5
    refine GC.seq ?_
    refine GC.region ?_
    refine GL.val trivial rfl (OV.move (v := pv p_b) rfl) ?_
    obtain ⟨p13, hp14, h⟩ := h
    refine GL.val trivial rfl (OV.nilCheck (q := p_b) rfl hp14) ?_
    refine GL.val trivial rfl (OV.fieldAddr (p := p13) rfl rfl) ?_
    obtain ⟨x15, hr16, h⟩ := h
    refine GL.val trivial rfl (OV.load (p := (p13.1, p13.2 + 0)) rfl rfl hr16) ?_
    refine GL.val trivial rfl (OV.move (v := pv p_b) rfl) ?_
    obtain ⟨p17, hp18, hq19, h⟩ := h
    refine GL.val trivial rfl (OV.neqSame (p := x15) (q := p_b) rfl rfl hp18 hq19 rfl rfl) ?_
    refine GL.nil ?_
    refine GC.cond (b := false) rfl (fun hc20 => ?_) (fun hc20 => ?_)
    · replace h := And.left h hc20
      exact GC.never h
    · replace h := And.right h hc20
      exact GC.ends (fun _ _ hf hs => post_tmp0 rfl hf hs ⟨rfl, h⟩)

def sh_strings_Contains (C : Ctx) (p_s : Str) (p_substr : Str) (K : Bool → Heap → Prop) (H : Heap) : Prop :=
  c_strings_Index C p_s p_substr (fun r1 H2 =>
 K (decide ((r1 : Int) ≥ 0)) H2) H

theorem ad_strings_Contains (C : Ctx) (p_s : Str) (p_substr : Str) (K : Bool → Heap → Prop) (H : Heap) (h : sh_strings_Contains C p_s p_substr K H) : c_strings_Contains C p_s p_substr K H := by
  refine Spec.enter Tryd.func28 rfl Tryd.ntmps28 rfl ?_
  refine GC.sub [(0, sv p_s), (1, sv p_substr)] ⟨rfl, rfl, trivial⟩ ?_
  refine GC.seq ?_
  refine GC.region ?_
  refine GL.val trivial rfl (OV.assign (v := .bool false) rfl) ?_
  refine GL.nil ?_
  refine GC.seq ?_
  refine GC.region ?_
  refine GL.val trivial rfl (OV.move (v := sv p_s) rfl) ?_
  refine GL.val trivial rfl (OV.move (v := sv p_substr) rfl) ?_
  refine GL.call h trivial rfl ok_strings_Index (vs := [sv p_s, sv p_substr]) rfl ?_
  rintro _ H2 ⟨r1, rfl, h⟩
  refine GL.val trivial rfl (OV.ibin (v := .bool (decide ((r1 : Int) ≥ 0))) rfl rfl rfl) ?_
  refine GL.val trivial rfl (OV.assign (v := .bool (decide ((r1 : Int) ≥ 0))) rfl) ?_
  refine GL.nil ?_
  exact GC.ret (fun _ _ hf hs => post_tmp1 rfl rfl hf hs ⟨(decide ((r1 : Int) ≥ 0)), rfl, h⟩)

def sh_strings_ReplaceAll (C : Ctx) (p_s : Str) (p_old : Str) (p_new : Str) (K : Str → Heap → Prop) (H : Heap) : Prop :=
  c_strings_Replace C p_s p_old p_new (-1) (fun r1 H2 =>
 K r1 H2) H

theorem ad_strings_ReplaceAll (C : Ctx) (p_s : Str) (p_old : Str) (p_new : Str) (K : Str → Heap → Prop) (H : Heap) (h : sh_strings_ReplaceAll C p_s p_old p_new K H) : c_strings_ReplaceAll C p_s p_old p_new K H := by
  refine Spec.enter Tryd.func29 rfl Tryd.ntmps29 rfl ?_
  refine GC.sub [(0, sv p_s), (1, sv p_old), (2, sv p_new)] ⟨rfl, rfl, rfl, trivial⟩ ?_
  refine GC.seq ?_
  refine GC.region ?_
  refine GL.val trivial rfl (OV.assign (v := sv []) rfl) ?_
  refine GL.nil ?_
  refine GC.seq ?_
  refine GC.region ?_
  refine GL.val trivial rfl (OV.move (v := sv p_s) rfl) ?_
  refine GL.val trivial rfl (OV.move (v := sv p_old) rfl) ?_
  refine GL.val trivial rfl (OV.move (v := sv p_new) rfl) ?_
  refine GL.call h trivial rfl ok_strings_Replace (vs := [sv p_s, sv p_old, sv p_new, .int .i64 (-1)]) rfl ?_
  rintro _ H2 ⟨r1, rfl, h⟩
  refine GL.val trivial rfl (OV.assign (v := sv r1) rfl) ?_
  refine GL.nil ?_
  exact GC.ret (fun _ _ hf hs => post_tmp1 rfl rfl hf hs ⟨r1, rfl, h⟩)

def sh_strings_Index (C : Ctx) (p_s : Str) (p_substr : Str) (K : Int → Heap → Prop) (H : Heap) : Prop :=
  c_internal_stringslite_Index C p_s p_substr (fun r1 H2 =>
 K r1 H2) H

theorem ad_strings_Index (C : Ctx) (p_s : Str) (p_substr : Str) (K : Int → Heap → Prop) (H : Heap) (h : sh_strings_Index C p_s p_substr K H) : c_strings_Index C p_s p_substr K H := by
  refine Spec.enter Tryd.func31 rfl Tryd.ntmps31 rfl ?_
  refine GC.sub [(0, sv p_s), (1, sv p_substr)] ⟨rfl, rfl, trivial⟩ ?_
  refine GC.seq ?_
  refine GC.region ?_
  refine GL.val trivial rfl (OV.assign (v := .int .i64 0) rfl) ?_
  refine GL.nil ?_
  refine GC.seq ?_
  refine GC.region ?_
  refine GL.val trivial rfl (OV.move (v := sv p_s) rfl) ?_
  refine GL.val trivial rfl (OV.move (v := sv p_substr) rfl) ?_
  refine GL.call h trivial rfl ok_internal_stringslite_Index (vs := [sv p_s, sv p_substr]) rfl ?_
  rintro _ H2 ⟨r1, rfl, h⟩
  refine GL.val trivial rfl (OV.assign (v := .int .i64 r1) rfl) ?_
  refine GL.nil ?_
  exact GC.ret (fun _ _ hf hs => post_tmp1 rfl rfl hf hs ⟨r1, rfl, h⟩)

def sh_strings_Replace (C : Ctx) (p_s : Str) (p_old : Str) (p_new : Str) (p_n : Int) (K : Str → Heap → Prop) (H : Heap) : Prop :=
  ift ((p_old == p_new) || ((p_n : Int) == 0))
 (K p_s H)
 (jn (α := Int) (fun x4 H5 =>
 nwB 42 5 (fun b12 H13 =>
 c_strings_Builder_Grow C (some (b12, 0)) (w .i64 ((List.length p_s : Int) + (w .i64 (x4 * (w .i64 ((List.length p_new : Int) - (List.length p_old : Int))))))) (fun H14 =>
 jn (α := Int) (fun x16 H17 =>
 slS p_s x16 (List.length p_s : Int) fun t72 =>
 c_strings_Builder_WriteString C (some (b12, 0)) t72 (fun r78 r79 H80 =>
 c_strings_Builder_String C (some (b12, 0)) (fun r81 H82 =>
 K r81 H82) H80) H17)
 (fun J15 => ift (decide (((List.length p_old : Int) : Int) > 0))
 (lp (α := Int × Int) (0, 0) H14 (fun x20 J21 H22 =>
 ift (decide ((x20.2 : Int) < x4))
 (slS p_s x20.1 (List.length p_s : Int) fun t24 =>
 c_strings_Index C t24 p_old (fun r30 H31 =>
 slS p_s x20.1 (w .i64 (x20.1 + r30)) fun t32 =>
 c_strings_Builder_WriteString C (some (b12, 0)) t32 (fun r38 r39 H40 =>
 c_strings_Builder_WriteString C (some (b12, 0)) p_new (fun r41 r42 H43 =>
 J21 ((w .i64 ((w .i64 (x20.1 + r30)) + (List.length p_old : Int))), (w .i64 (x20.2 + 1))) H43) H40) H31) H22)
 (J15 x20.1 H22)))
 (c_strings_Builder_WriteString C (some (b12, 0)) p_new (fun r44 r45 H46 =>
 lp (α := Int × Int) (0, 0) H46 (fun x47 J48 H49 =>
 ift (decide ((x47.2 : Int) < (w .i64 (x4 - 1))))
 (slS p_s x47.1 (List.length p_s : Int) fun t51 =>
 c_unicode_utf8_DecodeRuneInString C t51 (fun r57 r58 H59 =>
 slS p_s x47.1 (w .i64 (x47.1 + r58)) fun t60 =>
 c_strings_Builder_WriteString C (some (b12, 0)) t60 (fun r66 r67 H68 =>
 c_strings_Builder_WriteString C (some (b12, 0)) p_new (fun r69 r70 H71 =>
 J48 ((w .i64 (x47.1 + r58)), (w .i64 (x47.2 + 1))) H71) H68) H59) H49)
 (J15 x47.1 H49))) H14))) H13) H5)
 (fun J3 => c_strings_Count C p_s p_old (fun r7 H8 =>
 ift ((r7 : Int) == 0)
 (K p_s H8)
 (ift ((decide ((p_n : Int) < 0)) || (decide ((r7 : Int) < p_n)))
 (J3 r7 H8)
 (J3 p_n H8))) H))

theorem ad_strings_Replace (C : Ctx) (p_s : Str) (p_old : Str) (p_new : Str) (p_n : Int) (K : Str → Heap → Prop) (H : Heap) (h : sh_strings_Replace C p_s p_old p_new p_n K H) : c_strings_Replace C p_s p_old p_new p_n K H := by
  refine Spec.enter Tryd.func32 rfl Tryd.ntmps32 rfl ?_
  refine GC.sub [(0, sv p_s), (1, sv p_old), (2, sv p_new), (3, .int .i64 p_n)] ⟨rfl, rfl, rfl, rfl, trivial⟩ ?_
  refine GC.seq ?_
  refine GC.region ?_
  refine GL.val trivial rfl (OV.assign (v := sv []) rfl) ?_
  refine GL.nil ?_
  refine GC.seq ?_
  refine GC.seq ?_
  refine GC.region ?_
  refine GL.val trivial rfl (OV.move (v := sv p_old) rfl) ?_
  refine GL.val trivial rfl (OV.move (v := sv p_new) rfl) ?_
  refine GL.val trivial rfl (OV.sbin (a := p_old) (b := p_new) (v := .bool (p_old == p_new)) rfl rfl rfl) ?_
  refine GL.val trivial rfl (OV.move (v := .bool (p_old == p_new)) rfl) ?_
  refine GL.cut0 3 [(22, .bool ((p_old == p_new) || ((p_n : Int) == 0))), (0, sv p_s), (1, sv p_old), (2, sv p_new), (3, .int .i64 p_n)] ?_ ?_
  · rcases Bool.eq_false_or_eq_true (p_old == p_new) with hc1 | hc1
    · skip
      refine GL.skip ⟨_, rfl, .inl ⟨_, rfl, hc1⟩⟩ rfl ?_
      refine GL.skip ⟨_, rfl, .inl ⟨_, rfl, hc1⟩⟩ rfl ?_
      refine GL.val trivial rfl (OV.pickT (b := p_old == p_new) (v := .bool true) rfl hc1 rfl) ?_
      exact GL.jump0 (fun _ _ h => h) () rfl ⟨(by rw [hc1]; rfl), rfl, rfl, rfl, rfl, trivial⟩
    · skip
      refine GL.val ⟨_, _, rfl, rfl, hc1⟩ rfl (OV.move (v := .int .i64 p_n) rfl) ?_
      refine GL.val ⟨_, _, rfl, rfl, hc1⟩ rfl (OV.ibin (v := .bool ((p_n : Int) == 0)) rfl rfl rfl) ?_
      refine GL.val trivial rfl (OV.pickF (b := p_old == p_new) (v := .bool ((p_n : Int) == 0)) rfl hc1 rfl) ?_
      exact GL.jump0 (fun _ _ h => h) () rfl ⟨(by rw [hc1]; rfl), rfl, rfl, rfl, rfl, trivial⟩
  refine GL.nil ?_
  refine GC.cond (b := (p_old == p_new) || ((p_n : Int) == 0)) rfl (fun hc2 => ?_) (fun hc2 => ?_)
  · replace h := And.left h hc2
    refine GC.seq ?_
    refine GC.region ?_
    refine GL.val trivial rfl (OV.move (v := sv p_s) rfl) ?_
    refine GL.val trivial rfl (OV.assign (v := sv p_s) rfl) ?_
    refine GL.nil ?_
    exact GC.ret (fun _ _ hf hs => post_tmp1 rfl rfl hf hs ⟨p_s, rfl, h⟩)
  · replace h := And.right h hc2
    refine GC.skip ?_
    obtain ⟨J3, h, hR6⟩ := h
    refine GC.join (α := Int) J3 (fun x4 => [(3, .int .i64 x4), (0, sv p_s), (1, sv p_old), (2, sv p_new)]) ?_ ?_
    · skip
      refine GC.seq ?_
      refine GC.region ?_
      refine GL.val trivial rfl (OV.move (v := sv p_s) rfl) ?_
      refine GL.val trivial rfl (OV.move (v := sv p_old) rfl) ?_
      refine GL.call h trivial rfl ok_strings_Count (vs := [sv p_s, sv p_old]) rfl ?_
      rintro _ H8 ⟨r7, rfl, h⟩
      refine GL.val trivial rfl (OV.assign (v := .int .i64 r7) rfl) ?_
      refine GL.nil ?_
      refine GC.seq ?_
      refine GC.region ?_
      refine GL.val trivial rfl (OV.move (v := .int .i64 r7) rfl) ?_
      refine GL.val trivial rfl (OV.ibin (v := .bool ((r7 : Int) == 0)) rfl rfl rfl) ?_
      refine GL.nil ?_
      refine GC.cond (b := (r7 : Int) == 0) rfl (fun hc9 => ?_) (fun hc9 => ?_)
      · replace h := And.left h hc9
        refine GC.seq ?_
        refine GC.region ?_
        refine GL.val trivial rfl (OV.move (v := sv p_s) rfl) ?_
        refine GL.val trivial rfl (OV.assign (v := sv p_s) rfl) ?_
        refine GL.nil ?_
        exact GC.ret (fun _ _ hf hs => post_tmp1 rfl rfl hf hs ⟨p_s, rfl, h⟩)
      · replace h := And.right h hc9
        refine GC.seq ?_
        refine GC.region ?_
        refine GL.val trivial rfl (OV.move (v := .int .i64 p_n) rfl) ?_
        refine GL.val trivial rfl (OV.ibin (v := .bool (decide ((p_n : Int) < 0))) rfl rfl rfl) ?_
        refine GL.val trivial rfl (OV.move (v := .bool (decide ((p_n : Int) < 0))) rfl) ?_
        refine GL.cut0 4 [(36, .bool ((decide ((p_n : Int) < 0)) || (decide ((r7 : Int) < p_n)))), (0, sv p_s), (1, sv p_old), (2, sv p_new), (3, .int .i64 p_n), (9, .int .i64 r7)] ?_ ?_
        · rcases Bool.eq_false_or_eq_true (decide ((p_n : Int) < 0)) with hc10 | hc10
          · skip
            refine GL.skip ⟨_, rfl, .inl ⟨_, rfl, hc10⟩⟩ rfl ?_
            refine GL.skip ⟨_, rfl, .inl ⟨_, rfl, hc10⟩⟩ rfl ?_
            refine GL.skip ⟨_, rfl, .inl ⟨_, rfl, hc10⟩⟩ rfl ?_
            refine GL.val trivial rfl (OV.pickT (b := decide ((p_n : Int) < 0)) (v := .bool true) rfl hc10 rfl) ?_
            exact GL.jump0 (fun _ _ h => h) () rfl ⟨(by rw [hc10]; rfl), rfl, rfl, rfl, rfl, rfl, trivial⟩
          · skip
            refine GL.val ⟨_, _, rfl, rfl, hc10⟩ rfl (OV.move (v := .int .i64 r7) rfl) ?_
            refine GL.val ⟨_, _, rfl, rfl, hc10⟩ rfl (OV.move (v := .int .i64 p_n) rfl) ?_
            refine GL.val ⟨_, _, rfl, rfl, hc10⟩ rfl (OV.ibin (v := .bool (decide ((r7 : Int) < p_n))) rfl rfl rfl) ?_
            refine GL.val trivial rfl (OV.pickF (b := decide ((p_n : Int) < 0)) (v := .bool (decide ((r7 : Int) < p_n))) rfl hc10 rfl) ?_
            exact GL.jump0 (fun _ _ h => h) () rfl ⟨(by rw [hc10]; rfl), rfl, rfl, rfl, rfl, rfl, trivial⟩
        refine GL.nil ?_
        refine GC.cond (b := (decide ((p_n : Int) < 0)) || (decide ((r7 : Int) < p_n))) rfl (fun hc11 => ?_) (fun hc11 => ?_)
        · replace h := And.left h hc11
          refine GC.region ?_
          refine GL.val trivial rfl (OV.move (v := .int .i64 r7) rfl) ?_
          refine GL.val trivial rfl (OV.assign (v := .int .i64 r7) rfl) ?_
          exact GL.jump (fun _ _ h => h) r7 h ⟨rfl, rfl, rfl, rfl, trivial⟩
        · replace h := And.right h hc11
          exact GC.jump (fun _ _ h => h) p_n h ⟨rfl, rfl, rfl, rfl, trivial⟩
    · intro x4 H5 h
      replace h := hR6 x4 H5 h
      refine GC.seq ?_
      refine GC.region ?_
      refine GL.allocB (T := 42) (e := 5) h trivial rfl rfl rfl ?_
      intro b12 H13 h
      refine GL.nil ?_
      refine GC.seq ?_
      refine GC.region ?_
      refine GL.val trivial rfl (OV.move (v := sv p_s) rfl) ?_
      refine GL.val trivial rfl (OV.lenStr (s := p_s) rfl rfl) ?_
      refine GL.val trivial rfl (OV.move (v := .int .i64 x4) rfl) ?_
      refine GL.val trivial rfl (OV.move (v := sv p_new) rfl) ?_
      refine GL.val trivial rfl (OV.lenStr (s := p_new) rfl rfl) ?_
      refine GL.val trivial rfl (OV.move (v := sv p_old) rfl) ?_
      refine GL.val trivial rfl (OV.lenStr (s := p_old) rfl rfl) ?_
      refine GL.val trivial rfl (OV.ibin (v := .int .i64 (w .i64 ((List.length p_new : Int) - (List.length p_old : Int)))) rfl rfl rfl) ?_
      refine GL.val trivial rfl (OV.ibin (v := .int .i64 (w .i64 (x4 * (w .i64 ((List.length p_new : Int) - (List.length p_old : Int)))))) rfl rfl rfl) ?_
      refine GL.val trivial rfl (OV.ibin (v := .int .i64 (w .i64 ((List.length p_s : Int) + (w .i64 (x4 * (w .i64 ((List.length p_new : Int) - (List.length p_old : Int)))))))) rfl rfl rfl) ?_
      refine GL.call h trivial rfl ok_strings_Builder_Grow (vs := [pv (some (b12, 0)), .int .i64 (w .i64 ((List.length p_s : Int) + (w .i64 (x4 * (w .i64 ((List.length p_new : Int) - (List.length p_old : Int)))))))]) rfl ?_
      rintro _ H14 ⟨rfl, h⟩
      refine GL.nil ?_
      refine GC.seq ?_
      refine GC.region ?_
      refine GL.val trivial rfl (OV.assign (v := .int .i64 0) rfl) ?_
      refine GL.nil ?_
      obtain ⟨J15, h, hR18⟩ := h
      refine GC.join (α := Int) J15 (fun x16 => [(11, .int .i64 x16), (0, sv p_s), (10, pv (some (b12, 0)))]) ?_ ?_
      · skip
        refine GC.seq ?_
        refine GC.region ?_
        refine GL.val trivial rfl (OV.move (v := sv p_old) rfl) ?_
        refine GL.val trivial rfl (OV.lenStr (s := p_old) rfl rfl) ?_
        refine GL.val trivial rfl (OV.ibin (v := .bool (decide (((List.length p_old : Int) : Int) > 0))) rfl rfl rfl) ?_
        refine GL.nil ?_
        refine GC.cond (b := decide (((List.length p_old : Int) : Int) > 0)) rfl (fun hc19 => ?_) (fun hc19 => ?_)
        · replace h := And.left h hc19
          refine GC.seq ?_
          refine GC.region ?_
          refine GL.val trivial rfl (OV.move (v := .int .i64 x4) rfl) ?_
          refine GL.val trivial rfl (OV.move (v := .int .i64 0) rfl) ?_
          refine GL.nil ?_
          refine GC.block ?_
          refine GC.loop (α := Int × Int) h (fun x20 => [(11, .int .i64 x20.1), (53, .int .i64 x20.2), (0, sv p_s), (1, sv p_old), (2, sv p_new), (10, pv (some (b12, 0))), (52, .int .i64 x4)]) ⟨rfl, rfl, rfl, rfl, rfl, rfl, rfl, trivial⟩ ?_
          intro x20 H22 J21 h
          refine GC.seq ?_
          refine GC.region ?_
          refine GL.val trivial rfl (OV.ibin (v := .bool (decide ((x20.2 : Int) < x4))) rfl rfl rfl) ?_
          refine GL.nil ?_
          refine GC.seq ?_
          refine GC.cond (b := decide ((x20.2 : Int) < x4)) rfl (fun hc23 => ?_) (fun hc23 => ?_)
          · replace h := And.left h hc23
            refine GC.skip ?_
            refine GC.seq ?_
            refine GC.block ?_
            refine GC.seq ?_
            refine GC.region ?_
            refine GL.val trivial rfl (OV.move (v := .int .i64 x20.1) rfl) ?_
            refine GL.val trivial rfl (OV.move (v := sv p_s) rfl) ?_
            refine GL.val trivial rfl (OV.move (v := .int .i64 x20.1) rfl) ?_
            obtain ⟨h25, h26, h27, t24, h28, h⟩ := h
            refine GL.val trivial rfl (OV.sliceStr (s := p_s) h25 h26 h27 h28 rfl rfl rfl rfl rfl rfl) ?_
            refine GL.val trivial rfl (OV.move (v := sv p_old) rfl) ?_
            refine GL.call h trivial rfl ok_strings_Index (vs := [sv t24, sv p_old]) rfl ?_
            rintro _ H31 ⟨r30, rfl, h⟩
            refine GL.val trivial rfl (OV.ibin (v := .int .i64 (w .i64 (x20.1 + r30))) rfl rfl rfl) ?_
            refine GL.val trivial rfl (OV.assign (v := .int .i64 (w .i64 (x20.1 + r30))) rfl) ?_
            refine GL.nil ?_
            refine GC.seq ?_
            refine GC.region ?_
            refine GL.val trivial rfl (OV.move (v := sv p_s) rfl) ?_
            refine GL.val trivial rfl (OV.move (v := .int .i64 x20.1) rfl) ?_
            refine GL.val trivial rfl (OV.move (v := .int .i64 (w .i64 (x20.1 + r30))) rfl) ?_
            obtain ⟨h33, h34, h35, t32, h36, h⟩ := h
            refine GL.val trivial rfl (OV.sliceStr (s := p_s) h33 h34 h35 h36 rfl rfl rfl rfl rfl rfl) ?_
            refine GL.call h trivial rfl ok_strings_Builder_WriteString (vs := [pv (some (b12, 0)), sv t32]) rfl ?_
            rintro _ H40 ⟨r38, r39, rfl, h⟩
            refine GL.nil ?_
            refine GC.seq ?_
            refine GC.region ?_
            refine GL.val trivial rfl (OV.move (v := sv p_new) rfl) ?_
            refine GL.call h trivial rfl ok_strings_Builder_WriteString (vs := [pv (some (b12, 0)), sv p_new]) rfl ?_
            rintro _ H43 ⟨r41, r42, rfl, h⟩
            refine GL.nil ?_
            refine GC.region ?_
            refine GL.val trivial rfl (OV.move (v := .int .i64 (w .i64 (x20.1 + r30))) rfl) ?_
            refine GL.val trivial rfl (OV.move (v := sv p_old) rfl) ?_
            refine GL.val trivial rfl (OV.lenStr (s := p_old) rfl rfl) ?_
            refine GL.val trivial rfl (OV.ibin (v := .int .i64 (w .i64 ((w .i64 (x20.1 + r30)) + (List.length p_old : Int)))) rfl rfl rfl) ?_
            refine GL.val trivial rfl (OV.assign (v := .int .i64 (w .i64 ((w .i64 (x20.1 + r30)) + (List.length p_old : Int)))) rfl) ?_
            refine GL.nil_to (fun _ _ h => h) ?_
            refine GC.region ?_
            refine GL.val trivial rfl (OV.ibin (v := .int .i64 (w .i64 (x20.2 + 1))) rfl rfl rfl) ?_
            refine GL.val trivial rfl (OV.move (v := .int .i64 (w .i64 (x20.2 + 1))) rfl) ?_
            exact GL.jump (fun _ _ h => h) ((w .i64 ((w .i64 (x20.1 + r30)) + (List.length p_old : Int))), (w .i64 (x20.2 + 1))) h ⟨rfl, rfl, rfl, rfl, rfl, rfl, rfl, trivial⟩
          · replace h := And.right h hc23
            exact GC.exit_jump (fun _ _ h => h) x20.1 h ⟨rfl, rfl, rfl, trivial⟩
        · replace h := And.right h hc19
          refine GC.seq ?_
          refine GC.region ?_
          refine GL.val trivial rfl (OV.move (v := sv p_new) rfl) ?_
          refine GL.call h trivial rfl ok_strings_Builder_WriteString (vs := [pv (some (b12, 0)), sv p_new]) rfl ?_
          rintro _ H46 ⟨r44, r45, rfl, h⟩
          refine GL.nil ?_
          refine GC.seq ?_
          refine GC.region ?_
          refine GL.val trivial rfl (OV.move (v := .int .i64 x4) rfl) ?_
          refine GL.val trivial rfl (OV.ibin (v := .int .i64 (w .i64 (x4 - 1))) rfl rfl rfl) ?_
          refine GL.val trivial rfl (OV.move (v := .int .i64 0) rfl) ?_
          refine GL.nil ?_
          refine GC.block ?_
          refine GC.loop (α := Int × Int) h (fun x47 => [(11, .int .i64 x47.1), (78, .int .i64 x47.2), (0, sv p_s), (2, sv p_new), (10, pv (some (b12, 0))), (77, .int .i64 (w .i64 (x4 - 1)))]) ⟨rfl, rfl, rfl, rfl, rfl, rfl, trivial⟩ ?_
          intro x47 H49 J48 h
          refine GC.seq ?_
          refine GC.region ?_
          refine GL.val trivial rfl (OV.ibin (v := .bool (decide ((x47.2 : Int) < (w .i64 (x4 - 1))))) rfl rfl rfl) ?_
          refine GL.nil ?_
          refine GC.seq ?_
          refine GC.cond (b := decide ((x47.2 : Int) < (w .i64 (x4 - 1)))) rfl (fun hc50 => ?_) (fun hc50 => ?_)
          · replace h := And.left h hc50
            refine GC.skip ?_
            refine GC.seq ?_
            refine GC.block ?_
            refine GC.seq ?_
            refine GC.region ?_
            refine GL.val trivial rfl (OV.move (v := sv p_s) rfl) ?_
            refine GL.val trivial rfl (OV.move (v := .int .i64 x47.1) rfl) ?_
            obtain ⟨h52, h53, h54, t51, h55, h⟩ := h
            refine GL.val trivial rfl (OV.sliceStr (s := p_s) h52 h53 h54 h55 rfl rfl rfl rfl rfl rfl) ?_
            refine GL.call h trivial rfl ok_unicode_utf8_DecodeRuneInString (vs := [sv t51]) rfl ?_
            rintro _ H59 ⟨r57, r58, rfl, h⟩
            refine GL.val trivial rfl (OV.move (v := .tuple #[.int .i32 r57, .int .i64 r58]) rfl) ?_
            refine GL.val trivial rfl (OV.extract (v := .int .i32 r57) rfl rfl) ?_
            refine GL.val trivial rfl (OV.extract (v := .int .i64 r58) rfl rfl) ?_
            refine GL.val trivial rfl (OV.assign (v := .int .i32 r57) rfl) ?_
            refine GL.val trivial rfl (OV.assign (v := .int .i64 r58) rfl) ?_
            refine GL.nil ?_
            refine GC.seq ?_
            refine GC.region ?_
            refine GL.val trivial rfl (OV.move (v := .int .i64 x47.1) rfl) ?_
            refine GL.val trivial rfl (OV.move (v := .int .i64 r58) rfl) ?_
            refine GL.val trivial rfl (OV.ibin (v := .int .i64 (w .i64 (x47.1 + r58))) rfl rfl rfl) ?_
            refine GL.val trivial rfl (OV.assign (v := .int .i64 (w .i64 (x47.1 + r58))) rfl) ?_
            refine GL.nil ?_
            refine GC.seq ?_
            refine GC.region ?_
            refine GL.val trivial rfl (OV.move (v := sv p_s) rfl) ?_
            refine GL.val trivial rfl (OV.move (v := .int .i64 x47.1) rfl) ?_
            refine GL.val trivial rfl (OV.move (v := .int .i64 (w .i64 (x47.1 + r58))) rfl) ?_
            obtain ⟨h61, h62, h63, t60, h64, h⟩ := h
            refine GL.val trivial rfl (OV.sliceStr (s := p_s) h61 h62 h63 h64 rfl rfl rfl rfl rfl rfl) ?_
            refine GL.call h trivial rfl ok_strings_Builder_WriteString (vs := [pv (some (b12, 0)), sv t60]) rfl ?_
            rintro _ H68 ⟨r66, r67, rfl, h⟩
            refine GL.nil ?_
            refine GC.seq ?_
            refine GC.region ?_
            refine GL.val trivial rfl (OV.move (v := sv p_new) rfl) ?_
            refine GL.call h trivial rfl ok_strings_Builder_WriteString (vs := [pv (some (b12, 0)), sv p_new]) rfl ?_
            rintro _ H71 ⟨r69, r70, rfl, h⟩
            refine GL.nil ?_
            refine GC.region ?_
            refine GL.val trivial rfl (OV.move (v := .int .i64 (w .i64 (x47.1 + r58))) rfl) ?_
            refine GL.val trivial rfl (OV.assign (v := .int .i64 (w .i64 (x47.1 + r58))) rfl) ?_
            refine GL.nil_to (fun _ _ h => h) ?_
            refine GC.region ?_
            refine GL.val trivial rfl (OV.ibin (v := .int .i64 (w .i64 (x47.2 + 1))) rfl rfl rfl) ?_
            refine GL.val trivial rfl (OV.move (v := .int .i64 (w .i64 (x47.2 + 1))) rfl) ?_
            exact GL.jump (fun _ _ h => h) ((w .i64 (x47.1 + r58)), (w .i64 (x47.2 + 1))) h ⟨rfl, rfl, rfl, rfl, rfl, rfl, trivial⟩
          · replace h := And.right h hc50
            exact GC.exit_jump (fun _ _ h => h) x47.1 h ⟨rfl, rfl, rfl, trivial⟩
      · intro x16 H17 h
        replace h := hR18 x16 H17 h
        refine GC.seq ?_
        refine GC.region ?_
        refine GL.val trivial rfl (OV.move (v := sv p_s) rfl) ?_
        refine GL.val trivial rfl (OV.move (v := .int .i64 x16) rfl) ?_
        obtain ⟨h73, h74, h75, t72, h76, h⟩ := h
        refine GL.val trivial rfl (OV.sliceStr (s := p_s) h73 h74 h75 h76 rfl rfl rfl rfl rfl rfl) ?_
        refine GL.call h trivial rfl ok_strings_Builder_WriteString (vs := [pv (some (b12, 0)), sv t72]) rfl ?_
        rintro _ H80 ⟨r78, r79, rfl, h⟩
        refine GL.nil ?_
        refine GC.seq ?_
        refine GC.region ?_
        refine GL.call h trivial rfl ok_strings_Builder_String (vs := [pv (some (b12, 0))]) rfl ?_
        rintro _ H82 ⟨r81, rfl, h⟩
        refine GL.val trivial rfl (OV.assign (v := sv r81) rfl) ?_
        refine GL.nil ?_
        exact GC.ret (fun _ _ hf hs => post_tmp1 rfl rfl hf hs ⟨r81, rfl, h⟩)

def sh_internal_stringslite_Index (C : Ctx) (p_s : Str) (p_substr : Str) (K : Int → Heap → Prop) (H : Heap) : Prop :=
  ift ((((List.length p_substr : Int) : Int) == 0) || (p_substr == p_s))
 (K 0 H)
 (ift (((List.length p_substr : Int) : Int) == 1)
 (ixs p_substr 0 fun c4 =>
 c_internal_stringslite_IndexByte C p_s (c4.toNat : Int) (fun r7 H8 =>
 K r7 H8) H)
 (ift (decide (((List.length p_substr : Int) : Int) ≥ (List.length p_s : Int)))
 (K (-1) H)
 (ldI H .i64 (0, 0) fun x10 =>
 ift ((decide (((List.length p_substr : Int) : Int) ≤ x10)) && (decide (((List.length p_s : Int) : Int) ≤ 64)))
 (False)
 (ixs p_substr 0 fun c14 =>
 ixs p_substr 1 fun c17 =>
 lp (α := Int × Int) (0, 0) H (fun x20 J21 H22 =>
 ift (decide ((x20.1 : Int) < (w .i64 ((w .i64 ((List.length p_s : Int) - (List.length p_substr : Int))) + 1))))
 (jn (α := Int) (fun x25 H26 =>
 ixs p_s (w .i64 (x25 + 1)) fun c41 =>
 jn (α := Bool) (fun b44 H54 =>
 ift b44
 (K x25 H54)
 (ldI H54 .i64 (0, 0) fun x56 =>
 jn (α := Bool) (fun b58 H64 =>
 ift b58
 (False)
 (ldI H64 .i64 (0, 0) fun x72 =>
 ift (((decide (((List.length p_substr : Int) : Int) > x72)) && (decide (((w .i64 (x20.2 + 1)) : Int) ≥ (w .i64 (4 + (sShr .i64 (w .i64 (x25 + 1)) 4)))))) && (decide (((w .i64 (x25 + 1)) : Int) < (w .i64 ((w .i64 ((List.length p_s : Int) - (List.length p_substr : Int))) + 1)))))
 (slS p_s (w .i64 (x25 + 1)) (List.length p_s : Int) fun t77 =>
 c_internal_bytealg_IndexRabinKarp_string C t77 p_substr (fun r83 H84 =>
 ift (decide ((r83 : Int) < 0))
 (K (-1) H84)
 (K (w .i64 ((w .i64 (x25 + 1)) + r83)) H84)) H64)
 (J21 ((w .i64 (x25 + 1)), (w .i64 (x20.2 + 1))) H64)))
 (fun J59 => ift (decide (((List.length p_substr : Int) : Int) ≤ x56))
 (c_internal_bytealg_Cutover C (w .i64 (x25 + 1)) (fun r62 H63 =>
 J59 (decide (((w .i64 (x20.2 + 1)) : Int) > r62)) H63) H54)
 (J59 false H54))))
 (fun J45 => ift (((c41.toNat : Int) : Int) == (c17.toNat : Int))
 (slS p_s x25 (w .i64 (x25 + (List.length p_substr : Int))) fun t48 =>
 J45 (t48 == p_substr) H26)
 (J45 false H26)))
 (fun J24 => ixs p_s x20.1 fun c28 =>
 ift (((c28.toNat : Int) : Int) != (c14.toNat : Int))
 (slS p_s (w .i64 (x20.1 + 1)) (w .i64 ((w .i64 ((List.length p_s : Int) - (List.length p_substr : Int))) + 1)) fun t32 =>
 c_internal_stringslite_IndexByte C t32 (c14.toNat : Int) (fun r38 H39 =>
 ift (decide ((r38 : Int) < 0))
 (K (-1) H39)
 (J24 (w .i64 (x20.1 + (w .i64 (r38 + 1)))) H39)) H22)
 (J24 x20.1 H22)))
 (K (-1) H22))))))

theorem ad_internal_stringslite_Index (C : Ctx) (p_s : Str) (p_substr : Str) (K : Int → Heap → Prop) (H : Heap) (h : sh_internal_stringslite_Index C p_s p_substr K H) : c_internal_stringslite_Index C p_s p_substr K H := by
  refine Spec.enter Tryd.func33 rfl Tryd.ntmps33 rfl ?_
  refine GC.sub [(0, sv p_s), (1, sv p_substr)] ⟨rfl, rfl, trivial⟩ ?_
  refine GC.seq ?_
  refine GC.region ?_
  refine GL.val trivial rfl (OV.assign (v := .int .i64 0) rfl) ?_
  refine GL.nil ?_
  refine GC.seq ?_
  refine GC.region ?_
  refine GL.val trivial rfl (OV.move (v := sv p_substr) rfl) ?_
  refine GL.val trivial rfl (OV.lenStr (s := p_substr) rfl rfl) ?_
  refine GL.val trivial rfl (OV.assign (v := .int .i64 (List.length p_substr : Int)) rfl) ?_
  refine GL.nil ?_
  refine GC.seq ?_
  refine GC.block ?_
  refine GC.seq ?_
  refine GC.region ?_
  refine GL.val trivial rfl (OV.move (v := .int .i64 (List.length p_substr : Int)) rfl) ?_
  refine GL.val trivial rfl (OV.ibin (v := .bool (((List.length p_substr : Int) : Int) == 0)) rfl rfl rfl) ?_
  refine GL.val trivial rfl (OV.move (v := .bool (((List.length p_substr : Int) : Int) == 0)) rfl) ?_
  refine GL.cut0 4 [(23, .bool ((((List.length p_substr : Int) : Int) == 0) || (p_substr == p_s))), (0, sv p_s), (1, sv p_substr), (5, .int .i64 (List.length p_substr : Int))] ?_ ?_
  · rcases Bool.eq_false_or_eq_true (((List.length p_substr : Int) : Int) == 0) with hc1 | hc1
    · skip
      refine GL.skip ⟨_, rfl, .inl ⟨_, rfl, hc1⟩⟩ rfl ?_
      refine GL.skip ⟨_, rfl, .inl ⟨_, rfl, hc1⟩⟩ rfl ?_
      refine GL.skip ⟨_, rfl, .inl ⟨_, rfl, hc1⟩⟩ rfl ?_
      refine GL.val trivial rfl (OV.pickT (b := ((List.length p_substr : Int) : Int) == 0) (v := .bool true) rfl hc1 rfl) ?_
      exact GL.jump0 (fun _ _ h => h) () rfl ⟨(by rw [hc1]; rfl), rfl, rfl, rfl, trivial⟩
    · skip
      refine GL.val ⟨_, _, rfl, rfl, hc1⟩ rfl (OV.move (v := sv p_substr) rfl) ?_
      refine GL.val ⟨_, _, rfl, rfl, hc1⟩ rfl (OV.move (v := sv p_s) rfl) ?_
      refine GL.val ⟨_, _, rfl, rfl, hc1⟩ rfl (OV.sbin (a := p_substr) (b := p_s) (v := .bool (p_substr == p_s)) rfl rfl rfl) ?_
      refine GL.val trivial rfl (OV.pickF (b := ((List.length p_substr : Int) : Int) == 0) (v := .bool (p_substr == p_s)) rfl hc1 rfl) ?_
      exact GL.jump0 (fun _ _ h => h) () rfl ⟨(by rw [hc1]; rfl), rfl, rfl, rfl, trivial⟩
  refine GL.val trivial rfl (OV.assign (v := .bool ((((List.length p_substr : Int) : Int) == 0) || (p_substr == p_s))) rfl) ?_
  refine GL.nil ?_
  refine GC.cond (b := (((List.length p_substr : Int) : Int) == 0) || (p_substr == p_s)) rfl (fun hc2 => ?_) (fun hc2 => ?_)
  · replace h := And.left h hc2
    refine GC.seq ?_
    refine GC.region ?_
    refine GL.val trivial rfl (OV.assign (v := .int .i64 0) rfl) ?_
    refine GL.nil ?_
    exact GC.ret (fun _ _ hf hs => post_tmp1 rfl rfl hf hs ⟨0, rfl, h⟩)
  · replace h := And.right h hc2
    refine GC.seq ?_
    refine GC.region ?_
    refine GL.val trivial rfl (OV.move (v := .int .i64 (List.length p_substr : Int)) rfl) ?_
    refine GL.val trivial rfl (OV.ibin (v := .bool (((List.length p_substr : Int) : Int) == 1)) rfl rfl rfl) ?_
    refine GL.val trivial rfl (OV.assign (v := .bool (((List.length p_substr : Int) : Int) == 1)) rfl) ?_
    refine GL.nil ?_
    refine GC.cond (b := ((List.length p_substr : Int) : Int) == 1) rfl (fun hc3 => ?_) (fun hc3 => ?_)
    · replace h := And.left h hc3
      refine GC.seq ?_
      refine GC.region ?_
      refine GL.val trivial rfl (OV.move (v := sv p_s) rfl) ?_
      refine GL.val trivial rfl (OV.move (v := sv p_substr) rfl) ?_
      obtain ⟨c4, ha5, hb6, h⟩ := h
      refine GL.val trivial rfl (OV.indexStr (s := p_substr) rfl rfl rfl ha5 hb6) ?_
      refine GL.call h trivial rfl ok_internal_stringslite_IndexByte (vs := [sv p_s, .int .u8 (c4.toNat : Int)]) rfl ?_
      rintro _ H8 ⟨r7, rfl, h⟩
      refine GL.val trivial rfl (OV.assign (v := .int .i64 r7) rfl) ?_
      refine GL.nil ?_
      exact GC.ret (fun _ _ hf hs => post_tmp1 rfl rfl hf hs ⟨r7, rfl, h⟩)
    · replace h := And.right h hc3
      refine GC.seq ?_
      refine GC.region ?_
      refine GL.val trivial rfl (OV.move (v := .int .i64 (List.length p_substr : Int)) rfl) ?_
      refine GL.val trivial rfl (OV.move (v := sv p_s) rfl) ?_
      refine GL.val trivial rfl (OV.lenStr (s := p_s) rfl rfl) ?_
      refine GL.val trivial rfl (OV.ibin (v := .bool (decide (((List.length p_substr : Int) : Int) ≥ (List.length p_s : Int)))) rfl rfl rfl) ?_
      refine GL.val trivial rfl (OV.assign (v := .bool (decide (((List.length p_substr : Int) : Int) ≥ (List.length p_s : Int)))) rfl) ?_
      refine GL.nil ?_
      refine GC.cond (b := decide (((List.length p_substr : Int) : Int) ≥ (List.length p_s : Int))) rfl (fun hc9 => ?_) (fun hc9 => ?_)
      · replace h := And.left h hc9
        refine GC.seq ?_
        refine GC.region ?_
        refine GL.val trivial rfl (OV.assign (v := .int .i64 (-1)) rfl) ?_
        refine GL.nil ?_
        exact GC.ret (fun _ _ hf hs => post_tmp1 rfl rfl hf hs ⟨(-1), rfl, h⟩)
      · replace h := And.right h hc9
        refine GC.seq ?_
        refine GC.region ?_
        refine GL.val trivial rfl (OV.move (v := .int .i64 (List.length p_substr : Int)) rfl) ?_
        obtain ⟨x10, hr11, h⟩ := h
        refine GL.val trivial rfl (OV.load (p := (0, 0)) rfl rfl hr11) ?_
        refine GL.val trivial rfl (OV.ibin (v := .bool (decide (((List.length p_substr : Int) : Int) ≤ x10))) rfl rfl rfl) ?_
        refine GL.val trivial rfl (OV.move (v := .bool (decide (((List.length p_substr : Int) : Int) ≤ x10))) rfl) ?_
        refine GL.cut0 4 [(44, .bool ((decide (((List.length p_substr : Int) : Int) ≤ x10)) && (decide (((List.length p_s : Int) : Int) ≤ 64)))), (0, sv p_s), (1, sv p_substr), (5, .int .i64 (List.length p_substr : Int))] ?_ ?_
        · rcases Bool.eq_false_or_eq_true (decide (((List.length p_substr : Int) : Int) ≤ x10)) with hc12 | hc12
          · skip
            refine GL.val ⟨_, _, rfl, rfl, hc12⟩ rfl (OV.move (v := sv p_s) rfl) ?_
            refine GL.val ⟨_, _, rfl, rfl, hc12⟩ rfl (OV.lenStr (s := p_s) rfl rfl) ?_
            refine GL.val ⟨_, _, rfl, rfl, hc12⟩ rfl (OV.ibin (v := .bool (decide (((List.length p_s : Int) : Int) ≤ 64))) rfl rfl rfl) ?_
            refine GL.val trivial rfl (OV.pickT (b := decide (((List.length p_substr : Int) : Int) ≤ x10)) (v := .bool (decide (((List.length p_s : Int) : Int) ≤ 64))) rfl hc12 rfl) ?_
            exact GL.jump0 (fun _ _ h => h) () rfl ⟨(by rw [hc12]; rfl), rfl, rfl, rfl, trivial⟩
          · skip
            refine GL.skip ⟨_, rfl, .inl ⟨_, rfl, hc12⟩⟩ rfl ?_
            refine GL.skip ⟨_, rfl, .inl ⟨_, rfl, hc12⟩⟩ rfl ?_
            refine GL.skip ⟨_, rfl, .inl ⟨_, rfl, hc12⟩⟩ rfl ?_
            refine GL.val trivial rfl (OV.pickF (b := decide (((List.length p_substr : Int) : Int) ≤ x10)) (v := .bool false) rfl hc12 rfl) ?_
            exact GL.jump0 (fun _ _ h => h) () rfl ⟨(by rw [hc12]; rfl), rfl, rfl, rfl, trivial⟩
        refine GL.val trivial rfl (OV.assign (v := .bool ((decide (((List.length p_substr : Int) : Int) ≤ x10)) && (decide (((List.length p_s : Int) : Int) ≤ 64)))) rfl) ?_
        refine GL.nil ?_
        refine GC.cond (b := (decide (((List.length p_substr : Int) : Int) ≤ x10)) && (decide (((List.length p_s : Int) : Int) ≤ 64))) rfl (fun hc13 => ?_) (fun hc13 => ?_)
        · replace h := And.left h hc13
          refine GC.seq ?_
          exact GC.never h
        · replace h := And.right h hc13
          refine GC.skip_to (fun _ _ h => h) ?_
          refine GC.seq ?_
          refine GC.region ?_
          refine GL.val trivial rfl (OV.move (v := sv p_substr) rfl) ?_
          obtain ⟨c14, ha15, hb16, h⟩ := h
          refine GL.val trivial rfl (OV.indexStr (s := p_substr) rfl rfl rfl ha15 hb16) ?_
          refine GL.val trivial rfl (OV.assign (v := .int .u8 (c14.toNat : Int)) rfl) ?_
          refine GL.nil ?_
          refine GC.seq ?_
          refine GC.region ?_
          refine GL.val trivial rfl (OV.move (v := sv p_substr) rfl) ?_
          obtain ⟨c17, ha18, hb19, h⟩ := h
          refine GL.val trivial rfl (OV.indexStr (s := p_substr) rfl rfl rfl ha18 hb19) ?_
          refine GL.val trivial rfl (OV.assign (v := .int .u8 (c17.toNat : Int)) rfl) ?_
          refine GL.nil ?_
          refine GC.seq ?_
          refine GC.region ?_
          refine GL.val trivial rfl (OV.assign (v := .int .i64 0) rfl) ?_
          refine GL.nil ?_
          refine GC.seq ?_
          refine GC.region ?_
          refine GL.val trivial rfl (OV.move (v := sv p_s) rfl) ?_
          refine GL.val trivial rfl (OV.lenStr (s := p_s) rfl rfl) ?_
          refine GL.val trivial rfl (OV.move (v := .int .i64 (List.length p_substr : Int)) rfl) ?_
          refine GL.val trivial rfl (OV.ibin (v := .int .i64 (w .i64 ((List.length p_s : Int) - (List.length p_substr : Int)))) rfl rfl rfl) ?_
          refine GL.val trivial rfl (OV.ibin (v := .int .i64 (w .i64 ((w .i64 ((List.length p_s : Int) - (List.length p_substr : Int))) + 1))) rfl rfl rfl) ?_
          refine GL.val trivial rfl (OV.assign (v := .int .i64 (w .i64 ((w .i64 ((List.length p_s : Int) - (List.length p_substr : Int))) + 1))) rfl) ?_
          refine GL.nil ?_
          refine GC.seq ?_
          refine GC.region ?_
          refine GL.val trivial rfl (OV.assign (v := .int .i64 0) rfl) ?_
          refine GL.nil ?_
          refine GC.seq ?_
          refine GC.block ?_
          refine GC.loop (α := Int × Int) h (fun x20 => [(8, .int .i64 x20.1), (10, .int .i64 x20.2), (0, sv p_s), (1, sv p_substr), (5, .int .i64 (List.length p_substr : Int)), (6, .int .u8 (c14.toNat : Int)), (7, .int .u8 (c17.toNat : Int)), (9, .int .i64 (w .i64 ((w .i64 ((List.length p_s : Int) - (List.length p_substr : Int))) + 1)))]) ⟨rfl, rfl, rfl, rfl, rfl, rfl, rfl, rfl, trivial⟩ ?_
          intro x20 H22 J21 h
          refine GC.seq ?_
          refine GC.seq ?_
          refine GC.region ?_
          refine GL.val trivial rfl (OV.move (v := .int .i64 x20.1) rfl) ?_
          refine GL.val trivial rfl (OV.move (v := .int .i64 (w .i64 ((w .i64 ((List.length p_s : Int) - (List.length p_substr : Int))) + 1))) rfl) ?_
          refine GL.val trivial rfl (OV.ibin (v := .bool (decide ((x20.1 : Int) < (w .i64 ((w .i64 ((List.length p_s : Int) - (List.length p_substr : Int))) + 1))))) rfl rfl rfl) ?_
          refine GL.nil ?_
          refine GC.cond (b := decide ((x20.1 : Int) < (w .i64 ((w .i64 ((List.length p_s : Int) - (List.length p_substr : Int))) + 1)))) rfl (fun hc23 => ?_) (fun hc23 => ?_)
          · replace h := And.left h hc23
            refine GC.skip ?_
            refine GC.block ?_
            obtain ⟨J24, h, hR27⟩ := h
            refine GC.join (α := Int) J24 (fun x25 => [(8, .int .i64 x25), (0, sv p_s), (1, sv p_substr), (5, .int .i64 (List.length p_substr : Int)), (6, .int .u8 (c14.toNat : Int)), (7, .int .u8 (c17.toNat : Int)), (9, .int .i64 (w .i64 ((w .i64 ((List.length p_s : Int) - (List.length p_substr : Int))) + 1))), (10, .int .i64 x20.2)]) ?_ ?_
            · skip
              refine GC.seq ?_
              refine GC.region ?_
              refine GL.val trivial rfl (OV.move (v := sv p_s) rfl) ?_
              refine GL.val trivial rfl (OV.move (v := .int .i64 x20.1) rfl) ?_
              obtain ⟨c28, ha29, hb30, h⟩ := h
              refine GL.val trivial rfl (OV.indexStr (s := p_s) rfl rfl rfl ha29 hb30) ?_
              refine GL.val trivial rfl (OV.move (v := .int .u8 (c14.toNat : Int)) rfl) ?_
              refine GL.val trivial rfl (OV.ibin (v := .bool (((c28.toNat : Int) : Int) != (c14.toNat : Int))) rfl rfl rfl) ?_
              refine GL.nil ?_
              refine GC.cond (b := ((c28.toNat : Int) : Int) != (c14.toNat : Int)) rfl (fun hc31 => ?_) (fun hc31 => ?_)
              · replace h := And.left h hc31
                refine GC.seq ?_
                refine GC.region ?_
                refine GL.val trivial rfl (OV.move (v := sv p_s) rfl) ?_
                refine GL.val trivial rfl (OV.move (v := .int .i64 x20.1) rfl) ?_
                refine GL.val trivial rfl (OV.ibin (v := .int .i64 (w .i64 (x20.1 + 1))) rfl rfl rfl) ?_
                refine GL.val trivial rfl (OV.move (v := .int .i64 (w .i64 ((w .i64 ((List.length p_s : Int) - (List.length p_substr : Int))) + 1))) rfl) ?_
                obtain ⟨h33, h34, h35, t32, h36, h⟩ := h
                refine GL.val trivial rfl (OV.sliceStr (s := p_s) h33 h34 h35 h36 rfl rfl rfl rfl rfl rfl) ?_
                refine GL.val trivial rfl (OV.move (v := .int .u8 (c14.toNat : Int)) rfl) ?_
                refine GL.call h trivial rfl ok_internal_stringslite_IndexByte (vs := [sv t32, .int .u8 (c14.toNat : Int)]) rfl ?_
                rintro _ H39 ⟨r38, rfl, h⟩
                refine GL.val trivial rfl (OV.assign (v := .int .i64 r38) rfl) ?_
                refine GL.nil ?_
                refine GC.seq ?_
                refine GC.seq ?_
                refine GC.region ?_
                refine GL.val trivial rfl (OV.move (v := .int .i64 r38) rfl) ?_
                refine GL.val trivial rfl (OV.ibin (v := .bool (decide ((r38 : Int) < 0))) rfl rfl rfl) ?_
                refine GL.nil ?_
                refine GC.cond (b := decide ((r38 : Int) < 0)) rfl (fun hc40 => ?_) (fun hc40 => ?_)
                · replace h := And.left h hc40
                  refine GC.seq ?_
                  refine GC.region ?_
                  refine GL.val trivial rfl (OV.assign (v := .int .i64 (-1)) rfl) ?_
                  refine GL.nil ?_
                  exact GC.ret (fun _ _ hf hs => post_tmp1 rfl rfl hf hs ⟨(-1), rfl, h⟩)
                · replace h := And.right h hc40
                  refine GC.skip ?_
                  refine GC.region ?_
                  refine GL.val trivial rfl (OV.move (v := .int .i64 x20.1) rfl) ?_
                  refine GL.val trivial rfl (OV.move (v := .int .i64 r38) rfl) ?_
                  refine GL.val trivial rfl (OV.ibin (v := .int .i64 (w .i64 (r38 + 1))) rfl rfl rfl) ?_
                  refine GL.val trivial rfl (OV.ibin (v := .int .i64 (w .i64 (x20.1 + (w .i64 (r38 + 1))))) rfl rfl rfl) ?_
                  refine GL.val trivial rfl (OV.assign (v := .int .i64 (w .i64 (x20.1 + (w .i64 (r38 + 1))))) rfl) ?_
                  exact GL.jump (fun _ _ h => h) (w .i64 (x20.1 + (w .i64 (r38 + 1)))) h ⟨rfl, rfl, rfl, rfl, rfl, rfl, rfl, rfl, trivial⟩
              · replace h := And.right h hc31
                exact GC.jump (fun _ _ h => h) x20.1 h ⟨rfl, rfl, rfl, rfl, rfl, rfl, rfl, rfl, trivial⟩
            · intro x25 H26 h
              replace h := hR27 x25 H26 h
              refine GC.seq ?_
              refine GC.seq ?_
              refine GC.region ?_
              refine GL.val trivial rfl (OV.move (v := sv p_s) rfl) ?_
              refine GL.val trivial rfl (OV.move (v := .int .i64 x25) rfl) ?_
              refine GL.val trivial rfl (OV.ibin (v := .int .i64 (w .i64 (x25 + 1))) rfl rfl rfl) ?_
              obtain ⟨c41, ha42, hb43, h⟩ := h
              refine GL.val trivial rfl (OV.indexStr (s := p_s) rfl rfl rfl ha42 hb43) ?_
              refine GL.val trivial rfl (OV.move (v := .int .u8 (c17.toNat : Int)) rfl) ?_
              refine GL.val trivial rfl (OV.ibin (v := .bool (((c41.toNat : Int) : Int) == (c17.toNat : Int))) rfl rfl rfl) ?_
              refine GL.val trivial rfl (OV.move (v := .bool (((c41.toNat : Int) : Int) == (c17.toNat : Int))) rfl) ?_
              obtain ⟨J45, h, hR46⟩ := h
              refine GL.cut (α := Bool) 9 J45 (fun b44 => [(93, .bool b44), (0, sv p_s), (1, sv p_substr), (5, .int .i64 (List.length p_substr : Int)), (6, .int .u8 (c14.toNat : Int)), (7, .int .u8 (c17.toNat : Int)), (8, .int .i64 x25), (9, .int .i64 (w .i64 ((w .i64 ((List.length p_s : Int) - (List.length p_substr : Int))) + 1))), (10, .int .i64 x20.2)]) ?_ ?_
              · rcases Bool.eq_false_or_eq_true (((c41.toNat : Int) : Int) == (c17.toNat : Int)) with hc47 | hc47
                · skip
                  replace h := And.left h hc47
                  refine GL.val ⟨_, _, rfl, rfl, hc47⟩ rfl (OV.move (v := sv p_s) rfl) ?_
                  refine GL.val ⟨_, _, rfl, rfl, hc47⟩ rfl (OV.move (v := .int .i64 x25) rfl) ?_
                  refine GL.val ⟨_, _, rfl, rfl, hc47⟩ rfl (OV.move (v := .int .i64 x25) rfl) ?_
                  refine GL.val ⟨_, _, rfl, rfl, hc47⟩ rfl (OV.move (v := .int .i64 (List.length p_substr : Int)) rfl) ?_
                  refine GL.val ⟨_, _, rfl, rfl, hc47⟩ rfl (OV.ibin (v := .int .i64 (w .i64 (x25 + (List.length p_substr : Int)))) rfl rfl rfl) ?_
                  obtain ⟨h49, h50, h51, t48, h52, h⟩ := h
                  refine GL.val ⟨_, _, rfl, rfl, hc47⟩ rfl (OV.sliceStr (s := p_s) h49 h50 h51 h52 rfl rfl rfl rfl rfl rfl) ?_
                  refine GL.val ⟨_, _, rfl, rfl, hc47⟩ rfl (OV.move (v := sv p_substr) rfl) ?_
                  refine GL.val ⟨_, _, rfl, rfl, hc47⟩ rfl (OV.sbin (a := t48) (b := p_substr) (v := .bool (t48 == p_substr)) rfl rfl rfl) ?_
                  refine GL.val trivial rfl (OV.pickT (b := ((c41.toNat : Int) : Int) == (c17.toNat : Int)) (v := .bool (t48 == p_substr)) rfl hc47 rfl) ?_
                  exact GL.jump (fun _ _ h => h) (t48 == p_substr) h ⟨rfl, rfl, rfl, rfl, rfl, rfl, rfl, rfl, rfl, trivial⟩
                · skip
                  replace h := And.right h hc47
                  refine GL.skip ⟨_, rfl, .inl ⟨_, rfl, hc47⟩⟩ rfl ?_
                  refine GL.skip ⟨_, rfl, .inl ⟨_, rfl, hc47⟩⟩ rfl ?_
                  refine GL.skip ⟨_, rfl, .inl ⟨_, rfl, hc47⟩⟩ rfl ?_
                  refine GL.skip ⟨_, rfl, .inl ⟨_, rfl, hc47⟩⟩ rfl ?_
                  refine GL.skip ⟨_, rfl, .inl ⟨_, rfl, hc47⟩⟩ rfl ?_
                  refine GL.skip ⟨_, rfl, .inl ⟨_, rfl, hc47⟩⟩ rfl ?_
                  refine GL.skip ⟨_, rfl, .inl ⟨_, rfl, hc47⟩⟩ rfl ?_
                  refine GL.skip ⟨_, rfl, .inl ⟨_, rfl, hc47⟩⟩ rfl ?_
                  refine GL.val trivial rfl (OV.pickF (b := ((c41.toNat : Int) : Int) == (c17.toNat : Int)) (v := .bool false) rfl hc47 rfl) ?_
                  exact GL.jump (fun _ _ h => h) false h ⟨rfl, rfl, rfl, rfl, rfl, rfl, rfl, rfl, rfl, trivial⟩
              intro b44 H54 h
              replace h := hR46 b44 H54 h
              refine GL.nil ?_
              refine GC.cond (b := b44) rfl (fun hc55 => ?_) (fun hc55 => ?_)
              · replace h := And.left h hc55
                refine GC.seq ?_
                refine GC.region ?_
                refine GL.val trivial rfl (OV.move (v := .int .i64 x25) rfl) ?_
                refine GL.val trivial rfl (OV.assign (v := .int .i64 x25) rfl) ?_
                refine GL.nil ?_
                exact GC.ret (fun _ _ hf hs => post_tmp1 rfl rfl hf hs ⟨x25, rfl, h⟩)
              · replace h := And.right h hc55
                refine GC.skip ?_
                refine GC.seq ?_
                refine GC.region ?_
                refine GL.val trivial rfl (OV.move (v := .int .i64 x25) rfl) ?_
                refine GL.val trivial rfl (OV.ibin (v := .int .i64 (w .i64 (x25 + 1))) rfl rfl rfl) ?_
                refine GL.val trivial rfl (OV.assign (v := .int .i64 (w .i64 (x25 + 1))) rfl) ?_
                refine GL.nil ?_
                refine GC.seq ?_
                refine GC.region ?_
                refine GL.val trivial rfl (OV.move (v := .int .i64 x20.2) rfl) ?_
                refine GL.val trivial rfl (OV.ibin (v := .int .i64 (w .i64 (x20.2 + 1))) rfl rfl rfl) ?_
                refine GL.val trivial rfl (OV.assign (v := .int .i64 (w .i64 (x20.2 + 1))) rfl) ?_
                refine GL.nil ?_
                refine GC.seq ?_
                refine GC.region ?_
                refine GL.val trivial rfl (OV.move (v := .int .i64 (List.length p_substr : Int)) rfl) ?_
                obtain ⟨x56, hr57, h⟩ := h
                refine GL.val trivial rfl (OV.load (p := (0, 0)) rfl rfl hr57) ?_
                refine GL.val trivial rfl (OV.ibin (v := .bool (decide (((List.length p_substr : Int) : Int) ≤ x56))) rfl rfl rfl) ?_
                refine GL.val trivial rfl (OV.move (v := .bool (decide (((List.length p_substr : Int) : Int) ≤ x56))) rfl) ?_
                obtain ⟨J59, h, hR60⟩ := h
                refine GL.cut (α := Bool) 5 J59 (fun b58 => [(107, .bool b58), (0, sv p_s), (1, sv p_substr), (5, .int .i64 (List.length p_substr : Int)), (6, .int .u8 (c14.toNat : Int)), (7, .int .u8 (c17.toNat : Int)), (8, .int .i64 (w .i64 (x25 + 1))), (9, .int .i64 (w .i64 ((w .i64 ((List.length p_s : Int) - (List.length p_substr : Int))) + 1))), (10, .int .i64 (w .i64 (x20.2 + 1)))]) ?_ ?_
                · rcases Bool.eq_false_or_eq_true (decide (((List.length p_substr : Int) : Int) ≤ x56)) with hc61 | hc61
                  · skip
                    replace h := And.left h hc61
                    refine GL.val ⟨_, _, rfl, rfl, hc61⟩ rfl (OV.move (v := .int .i64 (w .i64 (x20.2 + 1))) rfl) ?_
                    refine GL.val ⟨_, _, rfl, rfl, hc61⟩ rfl (OV.move (v := .int .i64 (w .i64 (x25 + 1))) rfl) ?_
                    refine GL.call h ⟨_, _, rfl, rfl, hc61⟩ rfl ok_internal_bytealg_Cutover (vs := [.int .i64 (w .i64 (x25 + 1))]) rfl ?_
                    rintro _ H63 ⟨r62, rfl, h⟩
                    refine GL.val ⟨_, _, rfl, rfl, hc61⟩ rfl (OV.ibin (v := .bool (decide (((w .i64 (x20.2 + 1)) : Int) > r62))) rfl rfl rfl) ?_
                    refine GL.val trivial rfl (OV.pickT (b := decide (((List.length p_substr : Int) : Int) ≤ x56)) (v := .bool (decide (((w .i64 (x20.2 + 1)) : Int) > r62))) rfl hc61 rfl) ?_
                    exact GL.jump (fun _ _ h => h) (decide (((w .i64 (x20.2 + 1)) : Int) > r62)) h ⟨rfl, rfl, rfl, rfl, rfl, rfl, rfl, rfl, rfl, trivial⟩
                  · skip
                    replace h := And.right h hc61
                    refine GL.skip ⟨_, rfl, .inl ⟨_, rfl, hc61⟩⟩ rfl ?_
                    refine GL.skip ⟨_, rfl, .inl ⟨_, rfl, hc61⟩⟩ rfl ?_
                    refine GL.skip ⟨_, rfl, .inl ⟨_, rfl, hc61⟩⟩ rfl ?_
                    refine GL.skip ⟨_, rfl, .inl ⟨_, rfl, hc61⟩⟩ rfl ?_
                    refine GL.val trivial rfl (OV.pickF (b := decide (((List.length p_substr : Int) : Int) ≤ x56)) (v := .bool false) rfl hc61 rfl) ?_
                    exact GL.jump (fun _ _ h => h) false h ⟨rfl, rfl, rfl, rfl, rfl, rfl, rfl, rfl, rfl, trivial⟩
                intro b58 H64 h
                replace h := hR60 b58 H64 h
                refine GL.nil ?_
                refine GC.cond (b := b58) rfl (fun hc65 => ?_) (fun hc65 => ?_)
                · replace h := And.left h hc65
                  refine GC.seq ?_
                  exact GC.never h
                · replace h := And.right h hc65
                  refine GC.seq ?_
                  refine GC.region ?_
                  refine GL.val trivial rfl (OV.move (v := .int .i64 (List.length p_substr : Int)) rfl) ?_
                  obtain ⟨x72, hr73, h⟩ := h
                  refine GL.val trivial rfl (OV.load (p := (0, 0)) rfl rfl hr73) ?_
                  refine GL.val trivial rfl (OV.ibin (v := .bool (decide (((List.length p_substr : Int) : Int) > x72))) rfl rfl rfl) ?_
                  refine GL.val trivial rfl (OV.move (v := .bool (decide (((List.length p_substr : Int) : Int) > x72))) rfl) ?_
                  refine GL.cut0 6 [(127, .bool ((decide (((List.length p_substr : Int) : Int) > x72)) && (decide (((w .i64 (x20.2 + 1)) : Int) ≥ (w .i64 (4 + (sShr .i64 (w .i64 (x25 + 1)) 4))))))), (0, sv p_s), (1, sv p_substr), (5, .int .i64 (List.length p_substr : Int)), (6, .int .u8 (c14.toNat : Int)), (7, .int .u8 (c17.toNat : Int)), (8, .int .i64 (w .i64 (x25 + 1))), (9, .int .i64 (w .i64 ((w .i64 ((List.length p_s : Int) - (List.length p_substr : Int))) + 1))), (10, .int .i64 (w .i64 (x20.2 + 1)))] ?_ ?_
                  · rcases Bool.eq_false_or_eq_true (decide (((List.length p_substr : Int) : Int) > x72)) with hc74 | hc74
                    · skip
                      refine GL.val ⟨_, _, rfl, rfl, hc74⟩ rfl (OV.move (v := .int .i64 (w .i64 (x20.2 + 1))) rfl) ?_
                      refine GL.val ⟨_, _, rfl, rfl, hc74⟩ rfl (OV.move (v := .int .i64 (w .i64 (x25 + 1))) rfl) ?_
                      refine GL.val ⟨_, _, rfl, rfl, hc74⟩ rfl (OV.shr rfl rfl (by decide)) ?_
                      refine GL.val ⟨_, _, rfl, rfl, hc74⟩ rfl (OV.ibin (v := .int .i64 (w .i64 (4 + (sShr .i64 (w .i64 (x25 + 1)) 4)))) rfl rfl rfl) ?_
                      refine GL.val ⟨_, _, rfl, rfl, hc74⟩ rfl (OV.ibin (v := .bool (decide (((w .i64 (x20.2 + 1)) : Int) ≥ (w .i64 (4 + (sShr .i64 (w .i64 (x25 + 1)) 4)))))) rfl rfl rfl) ?_
                      refine GL.val trivial rfl (OV.pickT (b := decide (((List.length p_substr : Int) : Int) > x72)) (v := .bool (decide (((w .i64 (x20.2 + 1)) : Int) ≥ (w .i64 (4 + (sShr .i64 (w .i64 (x25 + 1)) 4)))))) rfl hc74 rfl) ?_
                      exact GL.jump0 (fun _ _ h => h) () rfl ⟨(by rw [hc74]; rfl), rfl, rfl, rfl, rfl, rfl, rfl, rfl, rfl, trivial⟩
                    · skip
                      refine GL.skip ⟨_, rfl, .inl ⟨_, rfl, hc74⟩⟩ rfl ?_
                      refine GL.skip ⟨_, rfl, .inl ⟨_, rfl, hc74⟩⟩ rfl ?_
                      refine GL.skip ⟨_, rfl, .inl ⟨_, rfl, hc74⟩⟩ rfl ?_
                      refine GL.skip ⟨_, rfl, .inl ⟨_, rfl, hc74⟩⟩ rfl ?_
                      refine GL.skip ⟨_, rfl, .inl ⟨_, rfl, hc74⟩⟩ rfl ?_
                      refine GL.val trivial rfl (OV.pickF (b := decide (((List.length p_substr : Int) : Int) > x72)) (v := .bool false) rfl hc74 rfl) ?_
                      exact GL.jump0 (fun _ _ h => h) () rfl ⟨(by rw [hc74]; rfl), rfl, rfl, rfl, rfl, rfl, rfl, rfl, rfl, trivial⟩
                  refine GL.val trivial rfl (OV.move (v := .bool ((decide (((List.length p_substr : Int) : Int) > x72)) && (decide (((w .i64 (x20.2 + 1)) : Int) ≥ (w .i64 (4 + (sShr .i64 (w .i64 (x25 + 1)) 4))))))) rfl) ?_
                  refine GL.cut0 4 [(132, .bool (((decide (((List.length p_substr : Int) : Int) > x72)) && (decide (((w .i64 (x20.2 + 1)) : Int) ≥ (w .i64 (4 + (sShr .i64 (w .i64 (x25 + 1)) 4)))))) && (decide (((w .i64 (x25 + 1)) : Int) < (w .i64 ((w .i64 ((List.length p_s : Int) - (List.length p_substr : Int))) + 1)))))), (0, sv p_s), (1, sv p_substr), (5, .int .i64 (List.length p_substr : Int)), (6, .int .u8 (c14.toNat : Int)), (7, .int .u8 (c17.toNat : Int)), (8, .int .i64 (w .i64 (x25 + 1))), (9, .int .i64 (w .i64 ((w .i64 ((List.length p_s : Int) - (List.length p_substr : Int))) + 1))), (10, .int .i64 (w .i64 (x20.2 + 1)))] ?_ ?_
                  · rcases Bool.eq_false_or_eq_true ((decide (((List.length p_substr : Int) : Int) > x72)) && (decide (((w .i64 (x20.2 + 1)) : Int) ≥ (w .i64 (4 + (sShr .i64 (w .i64 (x25 + 1)) 4)))))) with hc75 | hc75
                    · skip
                      refine GL.val ⟨_, _, rfl, rfl, hc75⟩ rfl (OV.move (v := .int .i64 (w .i64 (x25 + 1))) rfl) ?_
                      refine GL.val ⟨_, _, rfl, rfl, hc75⟩ rfl (OV.move (v := .int .i64 (w .i64 ((w .i64 ((List.length p_s : Int) - (List.length p_substr : Int))) + 1))) rfl) ?_
                      refine GL.val ⟨_, _, rfl, rfl, hc75⟩ rfl (OV.ibin (v := .bool (decide (((w .i64 (x25 + 1)) : Int) < (w .i64 ((w .i64 ((List.length p_s : Int) - (List.length p_substr : Int))) + 1))))) rfl rfl rfl) ?_
                      refine GL.val trivial rfl (OV.pickT (b := (decide (((List.length p_substr : Int) : Int) > x72)) && (decide (((w .i64 (x20.2 + 1)) : Int) ≥ (w .i64 (4 + (sShr .i64 (w .i64 (x25 + 1)) 4)))))) (v := .bool (decide (((w .i64 (x25 + 1)) : Int) < (w .i64 ((w .i64 ((List.length p_s : Int) - (List.length p_substr : Int))) + 1))))) rfl hc75 rfl) ?_
                      exact GL.jump0 (fun _ _ h => h) () rfl ⟨(by rw [hc75]; rfl), rfl, rfl, rfl, rfl, rfl, rfl, rfl, rfl, trivial⟩
                    · skip
                      refine GL.skip ⟨_, rfl, .inl ⟨_, rfl, hc75⟩⟩ rfl ?_
                      refine GL.skip ⟨_, rfl, .inl ⟨_, rfl, hc75⟩⟩ rfl ?_
                      refine GL.skip ⟨_, rfl, .inl ⟨_, rfl, hc75⟩⟩ rfl ?_
                      refine GL.val trivial rfl (OV.pickF (b := (decide (((List.length p_substr : Int) : Int) > x72)) && (decide (((w .i64 (x20.2 + 1)) : Int) ≥ (w .i64 (4 + (sShr .i64 (w .i64 (x25 + 1)) 4)))))) (v := .bool false) rfl hc75 rfl) ?_
                      exact GL.jump0 (fun _ _ h => h) () rfl ⟨(by rw [hc75]; rfl), rfl, rfl, rfl, rfl, rfl, rfl, rfl, rfl, trivial⟩
                  refine GL.nil ?_
                  refine GC.cond (b := ((decide (((List.length p_substr : Int) : Int) > x72)) && (decide (((w .i64 (x20.2 + 1)) : Int) ≥ (w .i64 (4 + (sShr .i64 (w .i64 (x25 + 1)) 4)))))) && (decide (((w .i64 (x25 + 1)) : Int) < (w .i64 ((w .i64 ((List.length p_s : Int) - (List.length p_substr : Int))) + 1))))) rfl (fun hc76 => ?_) (fun hc76 => ?_)
                  · replace h := And.left h hc76
                    refine GC.seq ?_
                    refine GC.region ?_
                    refine GL.val trivial rfl (OV.move (v := sv p_s) rfl) ?_
                    refine GL.val trivial rfl (OV.move (v := .int .i64 (w .i64 (x25 + 1))) rfl) ?_
                    obtain ⟨h78, h79, h80, t77, h81, h⟩ := h
                    refine GL.val trivial rfl (OV.sliceStr (s := p_s) h78 h79 h80 h81 rfl rfl rfl rfl rfl rfl) ?_
                    refine GL.val trivial rfl (OV.move (v := sv p_substr) rfl) ?_
                    refine GL.call h trivial rfl ok_internal_bytealg_IndexRabinKarp_string (vs := [sv t77, sv p_substr]) rfl ?_
                    rintro _ H84 ⟨r83, rfl, h⟩
                    refine GL.val trivial rfl (OV.assign (v := .int .i64 r83) rfl) ?_
                    refine GL.nil ?_
                    refine GC.seq ?_
                    refine GC.seq ?_
                    refine GC.region ?_
                    refine GL.val trivial rfl (OV.move (v := .int .i64 r83) rfl) ?_
                    refine GL.val trivial rfl (OV.ibin (v := .bool (decide ((r83 : Int) < 0))) rfl rfl rfl) ?_
                    refine GL.nil ?_
                    refine GC.cond (b := decide ((r83 : Int) < 0)) rfl (fun hc85 => ?_) (fun hc85 => ?_)
                    · replace h := And.left h hc85
                      refine GC.seq ?_
                      refine GC.region ?_
                      refine GL.val trivial rfl (OV.assign (v := .int .i64 (-1)) rfl) ?_
                      refine GL.nil ?_
                      exact GC.ret (fun _ _ hf hs => post_tmp1 rfl rfl hf hs ⟨(-1), rfl, h⟩)
                    · replace h := And.right h hc85
                      refine GC.skip ?_
                      refine GC.seq ?_
                      refine GC.region ?_
                      refine GL.val trivial rfl (OV.move (v := .int .i64 (w .i64 (x25 + 1))) rfl) ?_
                      refine GL.val trivial rfl (OV.move (v := .int .i64 r83) rfl) ?_
                      refine GL.val trivial rfl (OV.ibin (v := .int .i64 (w .i64 ((w .i64 (x25 + 1)) + r83))) rfl rfl rfl) ?_
                      refine GL.val trivial rfl (OV.assign (v := .int .i64 (w .i64 ((w .i64 (x25 + 1)) + r83))) rfl) ?_
                      refine GL.nil ?_
                      exact GC.ret (fun _ _ hf hs => post_tmp1 rfl rfl hf hs ⟨(w .i64 ((w .i64 (x25 + 1)) + r83)), rfl, h⟩)
                  · replace h := And.right h hc76
                    exact GC.jump (fun _ _ h => h) ((w .i64 (x25 + 1)), (w .i64 (x20.2 + 1))) h ⟨rfl, rfl, rfl, rfl, rfl, rfl, rfl, rfl, trivial⟩
          · replace h := And.right h hc23
            refine GC.exit_to (fun _ _ h => h) ?_
            refine GC.seq ?_
            refine GC.region ?_
            refine GL.val trivial rfl (OV.assign (v := .int .i64 (-1)) rfl) ?_
            refine GL.nil ?_
            exact GC.ret (fun _ _ hf hs => post_tmp1 rfl rfl hf hs ⟨(-1), rfl, h⟩)

def sh_strings_Count (C : Ctx) (p_s : Str) (p_substr : Str) (K : Int → Heap → Prop) (H : Heap) : Prop :=
  ift (((List.length p_substr : Int) : Int) == 0)
 (c_unicode_utf8_RuneCountInString C p_s (fun r2 H3 =>
 K (w .i64 (r2 + 1)) H3) H)
 (ift (((List.length p_substr : Int) : Int) == 1)
 (ixs p_substr 0 fun c5 =>
 K (cntB p_s (c5.toNat : Int) : Int) H)
 (lp (α := Str × Int) (p_s, 0) H (fun x8 J9 H10 =>
 c_strings_Index C x8.1 p_substr (fun r11 H12 =>
 ift ((r11 : Int) == (-1))
 (K x8.2 H12)
 (slS x8.1 (w .i64 (r11 + (List.length p_substr : Int))) (List.length x8.1 : Int) fun t14 =>
 J9 (t14, (w .i64 (x8.2 + 1))) H12)) H10)))

theorem ad_strings_Count (C : Ctx) (p_s : Str) (p_substr : Str) (K : Int → Heap → Prop) (H : Heap) (h : sh_strings_Count C p_s p_substr K H) : c_strings_Count C p_s p_substr K H := by
  refine Spec.enter Tryd.func34 rfl Tryd.ntmps34 rfl ?_
  refine GC.sub [(0, sv p_s), (1, sv p_substr)] ⟨rfl, rfl, trivial⟩ ?_
  refine GC.seq ?_
  refine GC.region ?_
  refine GL.val trivial rfl (OV.assign (v := .int .i64 0) rfl) ?_
  refine GL.nil ?_
  refine GC.seq ?_
  refine GC.seq ?_
  refine GC.region ?_
  refine GL.val trivial rfl (OV.move (v := sv p_substr) rfl) ?_
  refine GL.val trivial rfl (OV.lenStr (s := p_substr) rfl rfl) ?_
  refine GL.val trivial rfl (OV.ibin (v := .bool (((List.length p_substr : Int) : Int) == 0)) rfl rfl rfl) ?_
  refine GL.nil ?_
  refine GC.cond (b := ((List.length p_substr : Int) : Int) == 0) rfl (fun hc1 => ?_) (fun hc1 => ?_)
  · replace h := And.left h hc1
    refine GC.seq ?_
    refine GC.region ?_
    refine GL.val trivial rfl (OV.move (v := sv p_s) rfl) ?_
    refine GL.call h trivial rfl ok_unicode_utf8_RuneCountInString (vs := [sv p_s]) rfl ?_
    rintro _ H3 ⟨r2, rfl, h⟩
    refine GL.val trivial rfl (OV.ibin (v := .int .i64 (w .i64 (r2 + 1))) rfl rfl rfl) ?_
    refine GL.val trivial rfl (OV.assign (v := .int .i64 (w .i64 (r2 + 1))) rfl) ?_
    refine GL.nil ?_
    exact GC.ret (fun _ _ hf hs => post_tmp1 rfl rfl hf hs ⟨(w .i64 (r2 + 1)), rfl, h⟩)
  · replace h := And.right h hc1
    refine GC.skip ?_
    refine GC.seq ?_
    refine GC.seq ?_
    refine GC.region ?_
    refine GL.val trivial rfl (OV.move (v := sv p_substr) rfl) ?_
    refine GL.val trivial rfl (OV.lenStr (s := p_substr) rfl rfl) ?_
    refine GL.val trivial rfl (OV.ibin (v := .bool (((List.length p_substr : Int) : Int) == 1)) rfl rfl rfl) ?_
    refine GL.nil ?_
    refine GC.cond (b := ((List.length p_substr : Int) : Int) == 1) rfl (fun hc4 => ?_) (fun hc4 => ?_)
    · replace h := And.left h hc4
      refine GC.seq ?_
      refine GC.region ?_
      refine GL.val trivial rfl (OV.move (v := sv p_s) rfl) ?_
      refine GL.val trivial rfl (OV.move (v := sv p_substr) rfl) ?_
      obtain ⟨c5, ha6, hb7, h⟩ := h
      refine GL.val trivial rfl (OV.indexStr (s := p_substr) rfl rfl rfl ha6 hb7) ?_
      refine GL.val trivial rfl (OV.ext ext_internal_bytealg_CountString (vs := [sv p_s, .int .u8 (c5.toNat : Int)]) (v := .int .i64 ((cntB p_s (c5.toNat : Int) : Int))) rfl (fun w => run_cntB _ _ w)) ?_
      refine GL.val trivial rfl (OV.assign (v := .int .i64 (cntB p_s (c5.toNat : Int) : Int)) rfl) ?_
      refine GL.nil ?_
      exact GC.ret (fun _ _ hf hs => post_tmp1 rfl rfl hf hs ⟨(cntB p_s (c5.toNat : Int) : Int), rfl, h⟩)
    · replace h := And.right h hc4
      refine GC.skip ?_
      refine GC.seq ?_
      refine GC.region ?_
      refine GL.val trivial rfl (OV.assign (v := .int .i64 0) rfl) ?_
      refine GL.nil ?_
      refine GC.block ?_
      refine GC.loop (α := Str × Int) h (fun x8 => [(0, sv x8.1), (5, .int .i64 x8.2), (1, sv p_substr)]) ⟨rfl, rfl, rfl, trivial⟩ ?_
      intro x8 H10 J9 h
      refine GC.block ?_
      refine GC.seq ?_
      refine GC.region ?_
      refine GL.val trivial rfl (OV.move (v := sv x8.1) rfl) ?_
      refine GL.val trivial rfl (OV.move (v := sv p_substr) rfl) ?_
      refine GL.call h trivial rfl ok_strings_Index (vs := [sv x8.1, sv p_substr]) rfl ?_
      rintro _ H12 ⟨r11, rfl, h⟩
      refine GL.val trivial rfl (OV.assign (v := .int .i64 r11) rfl) ?_
      refine GL.nil ?_
      refine GC.seq ?_
      refine GC.seq ?_
      refine GC.region ?_
      refine GL.val trivial rfl (OV.move (v := .int .i64 r11) rfl) ?_
      refine GL.val trivial rfl (OV.ibin (v := .bool ((r11 : Int) == (-1))) rfl rfl rfl) ?_
      refine GL.nil ?_
      refine GC.cond (b := (r11 : Int) == (-1)) rfl (fun hc13 => ?_) (fun hc13 => ?_)
      · replace h := And.left h hc13
        refine GC.seq ?_
        refine GC.region ?_
        refine GL.val trivial rfl (OV.move (v := .int .i64 x8.2) rfl) ?_
        refine GL.val trivial rfl (OV.assign (v := .int .i64 x8.2) rfl) ?_
        refine GL.nil ?_
        exact GC.ret (fun _ _ hf hs => post_tmp1 rfl rfl hf hs ⟨x8.2, rfl, h⟩)
      · replace h := And.right h hc13
        refine GC.skip ?_
        refine GC.seq ?_
        refine GC.region ?_
        refine GL.val trivial rfl (OV.move (v := .int .i64 x8.2) rfl) ?_
        refine GL.val trivial rfl (OV.ibin (v := .int .i64 (w .i64 (x8.2 + 1))) rfl rfl rfl) ?_
        refine GL.val trivial rfl (OV.assign (v := .int .i64 (w .i64 (x8.2 + 1))) rfl) ?_
        refine GL.nil ?_
        refine GC.region ?_
        refine GL.val trivial rfl (OV.move (v := sv x8.1) rfl) ?_
        refine GL.val trivial rfl (OV.move (v := .int .i64 r11) rfl) ?_
        refine GL.val trivial rfl (OV.move (v := sv p_substr) rfl) ?_
        refine GL.val trivial rfl (OV.lenStr (s := p_substr) rfl rfl) ?_
        refine GL.val trivial rfl (OV.ibin (v := .int .i64 (w .i64 (r11 + (List.length p_substr : Int)))) rfl rfl rfl) ?_
        obtain ⟨h15, h16, h17, t14, h18, h⟩ := h
        refine GL.val trivial rfl (OV.sliceStr (s := x8.1) h15 h16 h17 h18 rfl rfl rfl rfl rfl rfl) ?_
        refine GL.val trivial rfl (OV.assign (v := sv t14) rfl) ?_
        exact GL.jump (fun _ _ h => h) (t14, (w .i64 (x8.2 + 1))) h ⟨rfl, rfl, rfl, trivial⟩

def sh_strings_Builder_Grow (C : Ctx) (p_b : Option (Nat × Nat)) (p_n : Int) (K : Heap → Prop) (H : Heap) : Prop :=
  c_strings_Builder_copyCheck C p_b (fun H1 =>
 ift (decide ((p_n : Int) < 0))
 (False)
 (nck p_b fun p3 =>
 ldL H1 (p3.1, p3.2 + 1) fun x5 =>
 nck p_b fun p7 =>
 ldL H1 (p7.1, p7.2 + 1) fun x9 =>
 ift (decide (((w .i64 ((Sl.cap x5 : Int) - (Sl.len x9 : Int))) : Int) < p_n))
 (c_strings_Builder_grow C p_b p_n (fun H12 =>
 K H12) H1)
 (K H1))) H

theorem ad_strings_Builder_Grow (C : Ctx) (p_b : Option (Nat × Nat)) (p_n : Int) (K : Heap → Prop) (H : Heap) (h : sh_strings_Builder_Grow C p_b p_n K H) : c_strings_Builder_Grow C p_b p_n K H := by
  refine Spec.enter Tryd.func35 rfl Tryd.ntmps35 rfl ?_
  refine GC.sub [(0, pv p_b), (1, .int .i64 p_n)] ⟨rfl, rfl, trivial⟩ ?_
  refine GC.seq ?_
  refine GC.region ?_
  refine GL.val trivial rfl (OV.move (v := pv p_b) rfl) ?_
  refine GL.call h trivial rfl ok_strings_Builder_copyCheck (vs := [pv p_b]) rfl ?_
  rintro _ H1 ⟨rfl, h⟩
  refine GL.nil ?_
  refine GC.seq ?_
  refine GC.seq ?_
  refine GC.region ?_
  refine GL.val trivial rfl (OV.move (v := .int .i64 p_n) rfl) ?_
  refine GL.val trivial rfl (OV.ibin (v := .bool (decide ((p_n : Int) < 0))) rfl rfl rfl) ?_
  refine GL.nil ?_
  refine GC.cond (b := decide ((p_n : Int) < 0)) rfl (fun hc2 => ?_) (fun hc2 => ?_)
  · replace h := And.left h hc2
    exact GC.never h
  · replace h := And.right h hc2
    refine GC.skip ?_
    refine GC.seq ?_
    refine GC.draw (by kernel_rfl) (by kernel_rfl) ?_
    refine GQ.val trivial rfl (OV.move (v := pv p_b) rfl) ?_
    obtain ⟨p3, hp4, h⟩ := h
    refine GQ.val trivial rfl (OV.nilCheck (q := p_b) rfl hp4) ?_
    refine GQ.val trivial rfl (OV.fieldAddr (p := p3) rfl rfl) ?_
    obtain ⟨x5, hr6, h⟩ := h
    refine GQ.val trivial rfl (OV.load (p := (p3.1, p3.2 + 1)) rfl rfl hr6) ?_
    refine GQ.val trivial rfl (OV.cap (s := x5) rfl rfl rfl) ?_
    refine GQ.val trivial rfl (OV.move (v := pv p_b) rfl) ?_
    obtain ⟨p7, hp8, h⟩ := h
    refine GQ.val trivial rfl (OV.nilCheck (q := p_b) rfl hp8) ?_
    refine GQ.val trivial rfl (OV.fieldAddr (p := p7) rfl rfl) ?_
    obtain ⟨x9, hr10, h⟩ := h
    refine GQ.val trivial rfl (OV.load (p := (p7.1, p7.2 + 1)) rfl rfl hr10) ?_
    refine GQ.val trivial rfl (OV.lenSl (s := x9) rfl rfl) ?_
    refine GQ.val trivial rfl (OV.ibin (v := .int .i64 (w .i64 ((Sl.cap x5 : Int) - (Sl.len x9 : Int)))) rfl rfl rfl) ?_
    refine GQ.val trivial rfl (OV.move (v := .int .i64 p_n) rfl) ?_
    refine GQ.val trivial rfl (OV.ibin (v := .bool (decide (((w .i64 ((Sl.cap x5 : Int) - (Sl.len x9 : Int))) : Int) < p_n))) rfl rfl rfl) ?_
    refine GQ.nil ?_
    refine GL.nil ?_
    refine GC.cond (b := decide (((w .i64 ((Sl.cap x5 : Int) - (Sl.len x9 : Int))) : Int) < p_n)) rfl (fun hc11 => ?_) (fun hc11 => ?_)
    · replace h := And.left h hc11
      refine GC.region ?_
      refine GL.val trivial rfl (OV.move (v := pv p_b) rfl) ?_
      refine GL.val trivial rfl (OV.move (v := .int .i64 p_n) rfl) ?_
      refine GL.call h trivial rfl ok_strings_Builder_grow (vs := [pv p_b, .int .i64 p_n]) rfl ?_
      rintro _ H12 ⟨rfl, h⟩
      exact GL.ends (fun _ _ hf hs => post_tmp0 rfl hf hs ⟨rfl, h⟩)
    · replace h := And.right h hc11
      exact GC.ends (fun _ _ hf hs => post_tmp0 rfl hf hs ⟨rfl, h⟩)

def sh_unicode_utf8_DecodeRuneInString (C : Ctx) (p_s : Str) (K : Int → Int → Heap → Prop) (H : Heap) : Prop :=
  jn (α := Bool) (fun b1 H8 =>
 ift b1
 (ixs p_s 0 fun c10 =>
 K (w .i32 (c10.toNat : Int)) 1 H8)
 (c_unicode_utf8_decodeRuneInStringSlow C p_s (fun r13 r14 H15 =>
 K r13 r14 H15) H8))
 (fun J2 => ift (!(p_s == ([] : Str)))
 (ixs p_s 0 fun c5 =>
 J2 (decide (((c5.toNat : Int) : Int) < 128)) H)
 (J2 false H))

theorem ad_unicode_utf8_DecodeRuneInString (C : Ctx) (p_s : Str) (K : Int → Int → Heap → Prop) (H : Heap) (h : sh_unicode_utf8_DecodeRuneInString C p_s K H) : c_unicode_utf8_DecodeRuneInString C p_s K H := by
  refine Spec.enter Tryd.func36 rfl Tryd.ntmps36 rfl ?_
  refine GC.sub [(0, sv p_s)] ⟨rfl, trivial⟩ ?_
  refine GC.seq ?_
  refine GC.region ?_
  refine GL.val trivial rfl (OV.assign (v := .int .i32 0) rfl) ?_
  refine GL.val trivial rfl (OV.assign (v := .int .i64 0) rfl) ?_
  refine GL.nil ?_
  refine GC.seq ?_
  refine GC.seq ?_
  refine GC.region ?_
  refine GL.val trivial rfl (OV.move (v := sv p_s) rfl) ?_
  refine GL.val trivial rfl (OV.sbin (a := p_s) (b := ([] : Str)) (v := .bool (!(p_s == ([] : Str)))) rfl rfl rfl) ?_
  refine GL.val trivial rfl (OV.move (v := .bool (!(p_s == ([] : Str)))) rfl) ?_
  obtain ⟨J2, h, hR3⟩ := h
  refine GL.cut (α := Bool) 4 J2 (fun b1 => [(10, .bool b1), (0, sv p_s)]) ?_ ?_
  · rcases Bool.eq_false_or_eq_true (!(p_s == ([] : Str))) with hc4 | hc4
    · skip
      replace h := And.left h hc4
      refine GL.val ⟨_, _, rfl, rfl, hc4⟩ rfl (OV.move (v := sv p_s) rfl) ?_
      obtain ⟨c5, ha6, hb7, h⟩ := h
      refine GL.val ⟨_, _, rfl, rfl, hc4⟩ rfl (OV.indexStr (s := p_s) rfl rfl rfl ha6 hb7) ?_
      refine GL.val ⟨_, _, rfl, rfl, hc4⟩ rfl (OV.ibin (v := .bool (decide (((c5.toNat : Int) : Int) < 128))) rfl rfl rfl) ?_
      refine GL.val trivial rfl (OV.pickT (b := !(p_s == ([] : Str))) (v := .bool (decide (((c5.toNat : Int) : Int) < 128))) rfl hc4 rfl) ?_
      exact GL.jump (fun _ _ h => h) (decide (((c5.toNat : Int) : Int) < 128)) h ⟨rfl, rfl, trivial⟩
    · skip
      replace h := And.right h hc4
      refine GL.skip ⟨_, rfl, .inl ⟨_, rfl, hc4⟩⟩ rfl ?_
      refine GL.skip ⟨_, rfl, .inl ⟨_, rfl, hc4⟩⟩ rfl ?_
      refine GL.skip ⟨_, rfl, .inl ⟨_, rfl, hc4⟩⟩ rfl ?_
      refine GL.val trivial rfl (OV.pickF (b := !(p_s == ([] : Str))) (v := .bool false) rfl hc4 rfl) ?_
      exact GL.jump (fun _ _ h => h) false h ⟨rfl, rfl, trivial⟩
  intro b1 H8 h
  replace h := hR3 b1 H8 h
  refine GL.nil ?_
  refine GC.cond (b := b1) rfl (fun hc9 => ?_) (fun hc9 => ?_)
  · replace h := And.left h hc9
    refine GC.seq ?_
    refine GC.region ?_
    refine GL.val trivial rfl (OV.move (v := sv p_s) rfl) ?_
    obtain ⟨c10, ha11, hb12, h⟩ := h
    refine GL.val trivial rfl (OV.indexStr (s := p_s) rfl rfl rfl ha11 hb12) ?_
    refine GL.val trivial rfl (OV.convInt rfl rfl rfl) ?_
    refine GL.val trivial rfl (OV.assign (v := .int .i32 (w .i32 (c10.toNat : Int))) rfl) ?_
    refine GL.val trivial rfl (OV.assign (v := .int .i64 1) rfl) ?_
    refine GL.nil ?_
    exact GC.ret (fun _ _ hf hs => post_tmp2 rfl rfl rfl hf hs ⟨(w .i32 (c10.toNat : Int)), 1, rfl, h⟩)
  · replace h := And.right h hc9
    refine GC.region ?_
    refine GL.val trivial rfl (OV.move (v := sv p_s) rfl) ?_
    refine GL.call h trivial rfl ok_unicode_utf8_decodeRuneInStringSlow (vs := [sv p_s]) rfl ?_
    rintro _ H15 ⟨r13, r14, rfl, h⟩
    refine GL.val trivial rfl (OV.move (v := .tuple #[.int .i32 r13, .int .i64 r14]) rfl) ?_
    refine GL.val trivial rfl (OV.extract (v := .int .i32 r13) rfl rfl) ?_
    refine GL.val trivial rfl (OV.extract (v := .int .i64 r14) rfl rfl) ?_
    refine GL.val trivial rfl (OV.assign (v := .int .i32 r13) rfl) ?_
    refine GL.val trivial rfl (OV.assign (v := .int .i64 r14) rfl) ?_
    refine GL.nil ?_
    exact GC.ret (fun _ _ hf hs => post_tmp2 rfl rfl rfl hf hs ⟨r13, r14, rfl, h⟩)

def sh_internal_stringslite_IndexByte (C : Ctx) (p_s : Str) (p_c : Int) (K : Int → Heap → Prop) (H : Heap) : Prop :=
  K (idxB p_s p_c) H

theorem ad_internal_stringslite_IndexByte (C : Ctx) (p_s : Str) (p_c : Int) (K : Int → Heap → Prop) (H : Heap) (h : sh_internal_stringslite_IndexByte C p_s p_c K H) : c_internal_stringslite_IndexByte C p_s p_c K H := by
  refine Spec.enter Tryd.func37 rfl Tryd.ntmps37 rfl ?_
  refine GC.sub [(0, sv p_s), (1, .int .u8 p_c)] ⟨rfl, rfl, trivial⟩ ?_
  refine GC.seq ?_
  refine GC.region ?_
  refine GL.val trivial rfl (OV.assign (v := .int .i64 0) rfl) ?_
  refine GL.nil ?_
  refine GC.seq ?_
  refine GC.region ?_
  refine GL.val trivial rfl (OV.move (v := sv p_s) rfl) ?_
  refine GL.val trivial rfl (OV.move (v := .int .u8 p_c) rfl) ?_
  refine GL.val trivial rfl (OV.ext ext_internal_bytealg_IndexByteString (vs := [sv p_s, .int .u8 p_c]) (v := .int .i64 (idxB p_s p_c)) rfl (fun w => run_idxB _ _ w)) ?_
  refine GL.val trivial rfl (OV.assign (v := .int .i64 (idxB p_s p_c)) rfl) ?_
  refine GL.nil ?_
  exact GC.ret (fun _ _ hf hs => post_tmp1 rfl rfl hf hs ⟨(idxB p_s p_c), rfl, h⟩)

def sh_internal_bytealg_Cutover (C : Ctx) (p_n : Int) (K : Int → Heap → Prop) (H : Heap) : Prop :=
  K (w .i64 (Int.tdiv (w .i64 (p_n + 16)) 8)) H

theorem ad_internal_bytealg_Cutover (C : Ctx) (p_n : Int) (K : Int → Heap → Prop) (H : Heap) (h : sh_internal_bytealg_Cutover C p_n K H) : c_internal_bytealg_Cutover C p_n K H := by
  refine Spec.enter Tryd.func39 rfl Tryd.ntmps39 rfl ?_
  refine GC.sub [(0, .int .i64 p_n)] ⟨rfl, trivial⟩ ?_
  refine GC.seq ?_
  refine GC.region ?_
  refine GL.val trivial rfl (OV.assign (v := .int .i64 0) rfl) ?_
  refine GL.nil ?_
  refine GC.seq ?_
  refine GC.region ?_
  refine GL.val trivial rfl (OV.move (v := .int .i64 p_n) rfl) ?_
  refine GL.val trivial rfl (OV.ibin (v := .int .i64 (w .i64 (p_n + 16))) rfl rfl rfl) ?_
  refine GL.val trivial rfl (OV.quo rfl rfl (by decide)) ?_
  refine GL.val trivial rfl (OV.assign (v := .int .i64 (w .i64 (Int.tdiv (w .i64 (p_n + 16)) 8))) rfl) ?_
  refine GL.nil ?_
  exact GC.ret (fun _ _ hf hs => post_tmp1 rfl rfl hf hs ⟨(w .i64 (Int.tdiv (w .i64 (p_n + 16)) 8)), rfl, h⟩)

def sh_internal_bytealg_IndexRabinKarp_string (C : Ctx) (p_s : Str) (p_sep : Str) (K : Int → Heap → Prop) (H : Heap) : Prop :=
  c_internal_bytealg_hashStr_string C p_sep (fun r1 r2 H3 =>
 lp (α := Int × Int) (0, 0) H3 (fun x4 J5 H6 =>
 ift (decide ((x4.2 : Int) < (List.length p_sep : Int)))
 (ixs p_s x4.2 fun c8 =>
 J5 ((w .u32 ((w .u32 (x4.1 * 16777619)) + (w .u32 (c8.toNat : Int)))), (w .i64 (x4.2 + 1))) H6)
 (jn (α := Bool) (fun b11 H21 =>
 ift b11
 (K 0 H21)
 (lp (α := Int × Int) (x4.1, (List.length p_sep : Int)) H21 (fun x23 J24 H25 =>
 ift (decide ((x23.2 : Int) < (List.length p_s : Int)))
 (ixs p_s x23.2 fun c27 =>
 ixs p_s (w .i64 (x23.2 - (List.length p_sep : Int))) fun c30 =>
 jn (α := Bool) (fun b33 H43 =>
 ift b33
 (K (w .i64 ((w .i64 (x23.2 + 1)) - (List.length p_sep : Int))) H43)
 (J24 ((w .u32 ((w .u32 ((w .u32 (x23.1 * 16777619)) + (w .u32 (c27.toNat : Int)))) - (w .u32 (r2 * (w .u32 (c30.toNat : Int)))))), (w .i64 (x23.2 + 1))) H43))
 (fun J34 => ift (((w .u32 ((w .u32 ((w .u32 (x23.1 * 16777619)) + (w .u32 (c27.toNat : Int)))) - (w .u32 (r2 * (w .u32 (c30.toNat : Int)))))) : Int) == r1)
 (slS p_s (w .i64 ((w .i64 (x23.2 + 1)) - (List.length p_sep : Int))) (w .i64 (x23.2 + 1)) fun t37 =>
 J34 (t37 == p_sep) H25)
 (J34 false H25)))
 (K (-1) H25))))
 (fun J12 => ift ((x4.1 : Int) == r1)
 (slS p_s 0 (List.length p_sep : Int) fun t15 =>
 J12 (t15 == p_sep) H6)
 (J12 false H6))))) H

theorem ad_internal_bytealg_IndexRabinKarp_string (C : Ctx) (p_s : Str) (p_sep : Str) (K : Int → Heap → Prop) (H : Heap) (h : sh_internal_bytealg_IndexRabinKarp_string C p_s p_sep K H) : c_internal_bytealg_IndexRabinKarp_string C p_s p_sep K H := by
  refine Spec.enter Tryd.func40 rfl Tryd.ntmps40 rfl ?_
  refine GC.sub [(0, sv p_s), (1, sv p_sep)] ⟨rfl, rfl, trivial⟩ ?_
  refine GC.seq ?_
  refine GC.region ?_
  refine GL.val trivial rfl (OV.assign (v := .int .i64 0) rfl) ?_
  refine GL.nil ?_
  refine GC.seq ?_
  refine GC.region ?_
  refine GL.val trivial rfl (OV.move (v := sv p_sep) rfl) ?_
  refine GL.call h trivial rfl ok_internal_bytealg_hashStr_string (vs := [sv p_sep]) rfl ?_
  rintro _ H3 ⟨r1, r2, rfl, h⟩
  refine GL.val trivial rfl (OV.move (v := .tuple #[.int .u32 r1, .int .u32 r2]) rfl) ?_
  refine GL.val trivial rfl (OV.extract (v := .int .u32 r1) rfl rfl) ?_
  refine GL.val trivial rfl (OV.extract (v := .int .u32 r2) rfl rfl) ?_
  refine GL.val trivial rfl (OV.assign (v := .int .u32 r1) rfl) ?_
  refine GL.val trivial rfl (OV.assign (v := .int .u32 r2) rfl) ?_
  refine GL.nil ?_
  refine GC.seq ?_
  refine GC.region ?_
  refine GL.val trivial rfl (OV.move (v := sv p_sep) rfl) ?_
  refine GL.val trivial rfl (OV.lenStr (s := p_sep) rfl rfl) ?_
  refine GL.val trivial rfl (OV.assign (v := .int .i64 (List.length p_sep : Int)) rfl) ?_
  refine GL.nil ?_
  refine GC.seq ?_
  refine GC.region ?_
  refine GL.val trivial rfl (OV.assign (v := .int .u32 0) rfl) ?_
  refine GL.nil ?_
  refine GC.seq ?_
  refine GC.seq ?_
  refine GC.region ?_
  refine GL.val trivial rfl (OV.assign (v := .int .i64 0) rfl) ?_
  refine GL.nil ?_
  refine GC.block ?_
  refine GC.loop (α := Int × Int) h (fun x4 => [(8, .int .u32 x4.1), (9, .int .i64 x4.2), (0, sv p_s), (1, sv p_sep), (5, .int .u32 r1), (6, .int .u32 r2), (7, .int .i64 (List.length p_sep : Int))]) ⟨rfl, rfl, rfl, rfl, rfl, rfl, rfl, trivial⟩ ?_
  intro x4 H6 J5 h
  refine GC.seq ?_
  refine GC.seq ?_
  refine GC.region ?_
  refine GL.val trivial rfl (OV.move (v := .int .i64 x4.2) rfl) ?_
  refine GL.val trivial rfl (OV.move (v := .int .i64 (List.length p_sep : Int)) rfl) ?_
  refine GL.val trivial rfl (OV.ibin (v := .bool (decide ((x4.2 : Int) < (List.length p_sep : Int)))) rfl rfl rfl) ?_
  refine GL.nil ?_
  refine GC.cond (b := decide ((x4.2 : Int) < (List.length p_sep : Int))) rfl (fun hc7 => ?_) (fun hc7 => ?_)
  · replace h := And.left h hc7
    refine GC.skip ?_
    refine GC.seq ?_
    refine GC.block ?_
    refine GC.region ?_
    refine GL.val trivial rfl (OV.move (v := .int .u32 x4.1) rfl) ?_
    refine GL.val trivial rfl (OV.ibin (v := .int .u32 (w .u32 (x4.1 * 16777619))) rfl rfl rfl) ?_
    refine GL.val trivial rfl (OV.move (v := sv p_s) rfl) ?_
    refine GL.val trivial rfl (OV.move (v := .int .i64 x4.2) rfl) ?_
    obtain ⟨c8, ha9, hb10, h⟩ := h
    refine GL.val trivial rfl (OV.indexStr (s := p_s) rfl rfl rfl ha9 hb10) ?_
    refine GL.val trivial rfl (OV.convInt rfl rfl rfl) ?_
    refine GL.val trivial rfl (OV.ibin (v := .int .u32 (w .u32 ((w .u32 (x4.1 * 16777619)) + (w .u32 (c8.toNat : Int))))) rfl rfl rfl) ?_
    refine GL.val trivial rfl (OV.assign (v := .int .u32 (w .u32 ((w .u32 (x4.1 * 16777619)) + (w .u32 (c8.toNat : Int))))) rfl) ?_
    refine GL.nil_to (fun _ _ h => h) ?_
    refine GC.region ?_
    refine GL.val trivial rfl (OV.move (v := .int .i64 x4.2) rfl) ?_
    refine GL.val trivial rfl (OV.ibin (v := .int .i64 (w .i64 (x4.2 + 1))) rfl rfl rfl) ?_
    refine GL.val trivial rfl (OV.assign (v := .int .i64 (w .i64 (x4.2 + 1))) rfl) ?_
    exact GL.jump (fun _ _ h => h) ((w .u32 ((w .u32 (x4.1 * 16777619)) + (w .u32 (c8.toNat : Int)))), (w .i64 (x4.2 + 1))) h ⟨rfl, rfl, rfl, rfl, rfl, rfl, rfl, trivial⟩
  · replace h := And.right h hc7
    refine GC.exit_to (fun _ _ h => h) ?_
    refine GC.seq ?_
    refine GC.seq ?_
    refine GC.region ?_
    refine GL.val trivial rfl (OV.move (v := .int .u32 x4.1) rfl) ?_
    refine GL.val trivial rfl (OV.move (v := .int .u32 r1) rfl) ?_
    refine GL.val trivial rfl (OV.ibin (v := .bool ((x4.1 : Int) == r1)) rfl rfl rfl) ?_
    refine GL.val trivial rfl (OV.move (v := .bool ((x4.1 : Int) == r1)) rfl) ?_
    obtain ⟨J12, h, hR13⟩ := h
    refine GL.cut (α := Bool) 6 J12 (fun b11 => [(39, .bool b11), (0, sv p_s), (1, sv p_sep), (5, .int .u32 r1), (6, .int .u32 r2), (7, .int .i64 (List.length p_sep : Int)), (8, .int .u32 x4.1)]) ?_ ?_
    · rcases Bool.eq_false_or_eq_true ((x4.1 : Int) == r1) with hc14 | hc14
      · skip
        replace h := And.left h hc14
        refine GL.val ⟨_, _, rfl, rfl, hc14⟩ rfl (OV.move (v := sv p_s) rfl) ?_
        refine GL.val ⟨_, _, rfl, rfl, hc14⟩ rfl (OV.move (v := .int .i64 (List.length p_sep : Int)) rfl) ?_
        obtain ⟨h16, h17, h18, t15, h19, h⟩ := h
        refine GL.val ⟨_, _, rfl, rfl, hc14⟩ rfl (OV.sliceStr (s := p_s) h16 h17 h18 h19 rfl rfl rfl rfl rfl rfl) ?_
        refine GL.val ⟨_, _, rfl, rfl, hc14⟩ rfl (OV.move (v := sv p_sep) rfl) ?_
        refine GL.val ⟨_, _, rfl, rfl, hc14⟩ rfl (OV.sbin (a := t15) (b := p_sep) (v := .bool (t15 == p_sep)) rfl rfl rfl) ?_
        refine GL.val trivial rfl (OV.pickT (b := (x4.1 : Int) == r1) (v := .bool (t15 == p_sep)) rfl hc14 rfl) ?_
        exact GL.jump (fun _ _ h => h) (t15 == p_sep) h ⟨rfl, rfl, rfl, rfl, rfl, rfl, rfl, trivial⟩
      · skip
        replace h := And.right h hc14
        refine GL.skip ⟨_, rfl, .inl ⟨_, rfl, hc14⟩⟩ rfl ?_
        refine GL.skip ⟨_, rfl, .inl ⟨_, rfl, hc14⟩⟩ rfl ?_
        refine GL.skip ⟨_, rfl, .inl ⟨_, rfl, hc14⟩⟩ rfl ?_
        refine GL.skip ⟨_, rfl, .inl ⟨_, rfl, hc14⟩⟩ rfl ?_
        refine GL.skip ⟨_, rfl, .inl ⟨_, rfl, hc14⟩⟩ rfl ?_
        refine GL.val trivial rfl (OV.pickF (b := (x4.1 : Int) == r1) (v := .bool false) rfl hc14 rfl) ?_
        exact GL.jump (fun _ _ h => h) false h ⟨rfl, rfl, rfl, rfl, rfl, rfl, rfl, trivial⟩
    intro b11 H21 h
    replace h := hR13 b11 H21 h
    refine GL.nil ?_
    refine GC.cond (b := b11) rfl (fun hc22 => ?_) (fun hc22 => ?_)
    · replace h := And.left h hc22
      refine GC.seq ?_
      refine GC.region ?_
      refine GL.val trivial rfl (OV.assign (v := .int .i64 0) rfl) ?_
      refine GL.nil ?_
      exact GC.ret (fun _ _ hf hs => post_tmp1 rfl rfl hf hs ⟨0, rfl, h⟩)
    · replace h := And.right h hc22
      refine GC.skip ?_
      refine GC.seq ?_
      refine GC.seq ?_
      refine GC.region ?_
      refine GL.val trivial rfl (OV.move (v := .int .i64 (List.length p_sep : Int)) rfl) ?_
      refine GL.val trivial rfl (OV.assign (v := .int .i64 (List.length p_sep : Int)) rfl) ?_
      refine GL.nil ?_
      refine GC.block ?_
      refine GC.loop (α := Int × Int) h (fun x23 => [(8, .int .u32 x23.1), (10, .int .i64 x23.2), (0, sv p_s), (1, sv p_sep), (5, .int .u32 r1), (6, .int .u32 r2), (7, .int .i64 (List.length p_sep : Int))]) ⟨rfl, rfl, rfl, rfl, rfl, rfl, rfl, trivial⟩ ?_
      intro x23 H25 J24 h
      refine GC.seq ?_
      refine GC.seq ?_
      refine GC.region ?_
      refine GL.val trivial rfl (OV.move (v := .int .i64 x23.2) rfl) ?_
      refine GL.val trivial rfl (OV.move (v := sv p_s) rfl) ?_
      refine GL.val trivial rfl (OV.lenStr (s := p_s) rfl rfl) ?_
      refine GL.val trivial rfl (OV.ibin (v := .bool (decide ((x23.2 : Int) < (List.length p_s : Int)))) rfl rfl rfl) ?_
      refine GL.nil ?_
      refine GC.cond (b := decide ((x23.2 : Int) < (List.length p_s : Int))) rfl (fun hc26 => ?_) (fun hc26 => ?_)
      · replace h := And.left h hc26
        refine GC.skip ?_
        refine GC.block ?_
        refine GC.seq ?_
        refine GC.region ?_
        refine GL.val trivial rfl (OV.move (v := .int .u32 x23.1) rfl) ?_
        refine GL.val trivial rfl (OV.ibin (v := .int .u32 (w .u32 (x23.1 * 16777619))) rfl rfl rfl) ?_
        refine GL.val trivial rfl (OV.assign (v := .int .u32 (w .u32 (x23.1 * 16777619))) rfl) ?_
        refine GL.nil ?_
        refine GC.seq ?_
        refine GC.region ?_
        refine GL.val trivial rfl (OV.move (v := .int .u32 (w .u32 (x23.1 * 16777619))) rfl) ?_
        refine GL.val trivial rfl (OV.move (v := sv p_s) rfl) ?_
        refine GL.val trivial rfl (OV.move (v := .int .i64 x23.2) rfl) ?_
        obtain ⟨c27, ha28, hb29, h⟩ := h
        refine GL.val trivial rfl (OV.indexStr (s := p_s) rfl rfl rfl ha28 hb29) ?_
        refine GL.val trivial rfl (OV.convInt rfl rfl rfl) ?_
        refine GL.val trivial rfl (OV.ibin (v := .int .u32 (w .u32 ((w .u32 (x23.1 * 16777619)) + (w .u32 (c27.toNat : Int))))) rfl rfl rfl) ?_
        refine GL.val trivial rfl (OV.assign (v := .int .u32 (w .u32 ((w .u32 (x23.1 * 16777619)) + (w .u32 (c27.toNat : Int))))) rfl) ?_
        refine GL.nil ?_
        refine GC.seq ?_
        refine GC.region ?_
        refine GL.val trivial rfl (OV.move (v := .int .u32 (w .u32 ((w .u32 (x23.1 * 16777619)) + (w .u32 (c27.toNat : Int))))) rfl) ?_
        refine GL.val trivial rfl (OV.move (v := .int .u32 r2) rfl) ?_
        refine GL.val trivial rfl (OV.move (v := sv p_s) rfl) ?_
        refine GL.val trivial rfl (OV.move (v := .int .i64 x23.2) rfl) ?_
        refine GL.val trivial rfl (OV.move (v := .int .i64 (List.length p_sep : Int)) rfl) ?_
        refine GL.val trivial rfl (OV.ibin (v := .int .i64 (w .i64 (x23.2 - (List.length p_sep : Int)))) rfl rfl rfl) ?_
        obtain ⟨c30, ha31, hb32, h⟩ := h
        refine GL.val trivial rfl (OV.indexStr (s := p_s) rfl rfl rfl ha31 hb32) ?_
        refine GL.val trivial rfl (OV.convInt rfl rfl rfl) ?_
        refine GL.val trivial rfl (OV.ibin (v := .int .u32 (w .u32 (r2 * (w .u32 (c30.toNat : Int))))) rfl rfl rfl) ?_
        refine GL.val trivial rfl (OV.ibin (v := .int .u32 (w .u32 ((w .u32 ((w .u32 (x23.1 * 16777619)) + (w .u32 (c27.toNat : Int)))) - (w .u32 (r2 * (w .u32 (c30.toNat : Int))))))) rfl rfl rfl) ?_
        refine GL.val trivial rfl (OV.assign (v := .int .u32 (w .u32 ((w .u32 ((w .u32 (x23.1 * 16777619)) + (w .u32 (c27.toNat : Int)))) - (w .u32 (r2 * (w .u32 (c30.toNat : Int))))))) rfl) ?_
        refine GL.nil ?_
        refine GC.seq ?_
        refine GC.region ?_
        refine GL.val trivial rfl (OV.move (v := .int .i64 x23.2) rfl) ?_
        refine GL.val trivial rfl (OV.ibin (v := .int .i64 (w .i64 (x23.2 + 1))) rfl rfl rfl) ?_
        refine GL.val trivial rfl (OV.assign (v := .int .i64 (w .i64 (x23.2 + 1))) rfl) ?_
        refine GL.nil ?_
        refine GC.seq ?_
        refine GC.region ?_
        refine GL.val trivial rfl (OV.move (v := .int .u32 (w .u32 ((w .u32 ((w .u32 (x23.1 * 16777619)) + (w .u32 (c27.toNat : Int)))) - (w .u32 (r2 * (w .u32 (c30.toNat : Int))))))) rfl) ?_
        refine GL.val trivial rfl (OV.move (v := .int .u32 r1) rfl) ?_
        refine GL.val trivial rfl (OV.ibin (v := .bool (((w .u32 ((w .u32 ((w .u32 (x23.1 * 16777619)) + (w .u32 (c27.toNat : Int)))) - (w .u32 (r2 * (w .u32 (c30.toNat : Int)))))) : Int) == r1)) rfl rfl rfl) ?_
        refine GL.val trivial rfl (OV.move (v := .bool (((w .u32 ((w .u32 ((w .u32 (x23.1 * 16777619)) + (w .u32 (c27.toNat : Int)))) - (w .u32 (r2 * (w .u32 (c30.toNat : Int)))))) : Int) == r1)) rfl) ?_
        obtain ⟨J34, h, hR35⟩ := h
        refine GL.cut (α := Bool) 9 J34 (fun b33 => [(77, .bool b33), (0, sv p_s), (1, sv p_sep), (5, .int .u32 r1), (6, .int .u32 r2), (7, .int .i64 (List.length p_sep : Int)), (8, .int .u32 (w .u32 ((w .u32 ((w .u32 (x23.1 * 16777619)) + (w .u32 (c27.toNat : Int)))) - (w .u32 (r2 * (w .u32 (c30.toNat : Int))))))), (10, .int .i64 (w .i64 (x23.2 + 1)))]) ?_ ?_
        · rcases Bool.eq_false_or_eq_true (((w .u32 ((w .u32 ((w .u32 (x23.1 * 16777619)) + (w .u32 (c27.toNat : Int)))) - (w .u32 (r2 * (w .u32 (c30.toNat : Int)))))) : Int) == r1) with hc36 | hc36
          · skip
            replace h := And.left h hc36
            refine GL.val ⟨_, _, rfl, rfl, hc36⟩ rfl (OV.move (v := sv p_s) rfl) ?_
            refine GL.val ⟨_, _, rfl, rfl, hc36⟩ rfl (OV.move (v := .int .i64 (w .i64 (x23.2 + 1))) rfl) ?_
            refine GL.val ⟨_, _, rfl, rfl, hc36⟩ rfl (OV.move (v := .int .i64 (List.length p_sep : Int)) rfl) ?_
            refine GL.val ⟨_, _, rfl, rfl, hc36⟩ rfl (OV.ibin (v := .int .i64 (w .i64 ((w .i64 (x23.2 + 1)) - (List.length p_sep : Int)))) rfl rfl rfl) ?_
            refine GL.val ⟨_, _, rfl, rfl, hc36⟩ rfl (OV.move (v := .int .i64 (w .i64 (x23.2 + 1))) rfl) ?_
            obtain ⟨h38, h39, h40, t37, h41, h⟩ := h
            refine GL.val ⟨_, _, rfl, rfl, hc36⟩ rfl (OV.sliceStr (s := p_s) h38 h39 h40 h41 rfl rfl rfl rfl rfl rfl) ?_
            refine GL.val ⟨_, _, rfl, rfl, hc36⟩ rfl (OV.move (v := sv p_sep) rfl) ?_
            refine GL.val ⟨_, _, rfl, rfl, hc36⟩ rfl (OV.sbin (a := t37) (b := p_sep) (v := .bool (t37 == p_sep)) rfl rfl rfl) ?_
            refine GL.val trivial rfl (OV.pickT (b := ((w .u32 ((w .u32 ((w .u32 (x23.1 * 16777619)) + (w .u32 (c27.toNat : Int)))) - (w .u32 (r2 * (w .u32 (c30.toNat : Int)))))) : Int) == r1) (v := .bool (t37 == p_sep)) rfl hc36 rfl) ?_
            exact GL.jump (fun _ _ h => h) (t37 == p_sep) h ⟨rfl, rfl, rfl, rfl, rfl, rfl, rfl, rfl, trivial⟩
          · skip
            replace h := And.right h hc36
            refine GL.skip ⟨_, rfl, .inl ⟨_, rfl, hc36⟩⟩ rfl ?_
            refine GL.skip ⟨_, rfl, .inl ⟨_, rfl, hc36⟩⟩ rfl ?_
            refine GL.skip ⟨_, rfl, .inl ⟨_, rfl, hc36⟩⟩ rfl ?_
            refine GL.skip ⟨_, rfl, .inl ⟨_, rfl, hc36⟩⟩ rfl ?_
            refine GL.skip ⟨_, rfl, .inl ⟨_, rfl, hc36⟩⟩ rfl ?_
            refine GL.skip ⟨_, rfl, .inl ⟨_, rfl, hc36⟩⟩ rfl ?_
            refine GL.skip ⟨_, rfl, .inl ⟨_, rfl, hc36⟩⟩ rfl ?_
            refine GL.skip ⟨_, rfl, .inl ⟨_, rfl, hc36⟩⟩ rfl ?_
            refine GL.val trivial rfl (OV.pickF (b := ((w .u32 ((w .u32 ((w .u32 (x23.1 * 16777619)) + (w .u32 (c27.toNat : Int)))) - (w .u32 (r2 * (w .u32 (c30.toNat : Int)))))) : Int) == r1) (v := .bool false) rfl hc36 rfl) ?_
            exact GL.jump (fun _ _ h => h) false h ⟨rfl, rfl, rfl, rfl, rfl, rfl, rfl, rfl, trivial⟩
        intro b33 H43 h
        replace h := hR35 b33 H43 h
        refine GL.nil ?_
        refine GC.cond (b := b33) rfl (fun hc44 => ?_) (fun hc44 => ?_)
        · replace h := And.left h hc44
          refine GC.seq ?_
          refine GC.region ?_
          refine GL.val trivial rfl (OV.move (v := .int .i64 (w .i64 (x23.2 + 1))) rfl) ?_
          refine GL.val trivial rfl (OV.move (v := .int .i64 (List.length p_sep : Int)) rfl) ?_
          refine GL.val trivial rfl (OV.ibin (v := .int .i64 (w .i64 ((w .i64 (x23.2 + 1)) - (List.length p_sep : Int)))) rfl rfl rfl) ?_
          refine GL.val trivial rfl (OV.assign (v := .int .i64 (w .i64 ((w .i64 (x23.2 + 1)) - (List.length p_sep : Int)))) rfl) ?_
          refine GL.nil ?_
          exact GC.ret (fun _ _ hf hs => post_tmp1 rfl rfl hf hs ⟨(w .i64 ((w .i64 (x23.2 + 1)) - (List.length p_sep : Int))), rfl, h⟩)
        · replace h := And.right h hc44
          exact GC.jump (fun _ _ h => h) ((w .u32 ((w .u32 ((w .u32 (x23.1 * 16777619)) + (w .u32 (c27.toNat : Int)))) - (w .u32 (r2 * (w .u32 (c30.toNat : Int)))))), (w .i64 (x23.2 + 1))) h ⟨rfl, rfl, rfl, rfl, rfl, rfl, rfl, trivial⟩
      · replace h := And.right h hc26
        refine GC.exit_to (fun _ _ h => h) ?_
        refine GC.seq ?_
        refine GC.region ?_
        refine GL.val trivial rfl (OV.assign (v := .int .i64 (-1)) rfl) ?_
        refine GL.nil ?_
        exact GC.ret (fun _ _ hf hs => post_tmp1 rfl rfl hf hs ⟨(-1), rfl, h⟩)

def sh_unicode_utf8_RuneCountInString (C : Ctx) (p_s : Str) (K : Int → Heap → Prop) (H : Heap) : Prop :=
  False

theorem ad_unicode_utf8_RuneCountInString (C : Ctx) (p_s : Str) (K : Int → Heap → Prop) (H : Heap) (h : sh_unicode_utf8_RuneCountInString C p_s K H) : c_unicode_utf8_RuneCountInString C p_s K H := by
  refine Spec.enter Tryd.func41 rfl Tryd.ntmps41 rfl ?_
  refine GC.sub [(0, sv p_s)] ⟨rfl, trivial⟩ ?_
  refine GC.seq ?_
  refine GC.region ?_
  refine GL.val trivial rfl (OV.assign (v := .int .i64 0) rfl) ?_
  refine GL.nil ?_
  refine GC.seq ?_
  refine GC.seq ?_
  exact GC.never h

def sh_strings_Builder_grow (C : Ctx) (p_b : Option (Nat × Nat)) (p_n : Int) (K : Heap → Prop) (H : Heap) : Prop :=
  dr H fun Hs1 =>
 nck p_b fun p3 =>
 ldL Hs1 (p3.1, p3.2 + 1) fun x5 =>
 nck p_b fun p7 =>
 ldL Hs1 (p7.1, p7.2 + 1) fun x9 =>
 mnz 5 (w .i64 ((w .i64 (2 * (Sl.cap x5 : Int))) + p_n)) (fun r12 H13 =>
 Heap.le Hs1 H13 ∧
 slL r12 0 (Sl.len x9 : Int) (Sl.cap r12 : Int) 1 fun t14 =>
 nck p_b fun p20 =>
 ldL H13 (p20.1, p20.2 + 1) fun x22 =>
 cpyG 1 t14 x22 (fun r24 H25 =>
 nck p_b fun p26 =>
 sttG (p26.1, p26.2 + 1) (slv t14) (fun H28 =>
 K H28) H25) H13) H

theorem ad_strings_Builder_grow (C : Ctx) (p_b : Option (Nat × Nat)) (p_n : Int) (K : Heap → Prop) (H : Heap) (h : sh_strings_Builder_grow C p_b p_n K H) : c_strings_Builder_grow C p_b p_n K H := by
  refine Spec.enter Tryd.func43 rfl Tryd.ntmps43 rfl ?_
  refine GC.sub [(0, pv p_b), (1, .int .i64 p_n)] ⟨rfl, rfl, trivial⟩ ?_
  refine GC.seq ?_
  obtain ⟨Hs1, hle2, h⟩ := h
  refine GC.any (Hs := Hs1) (by kernel_rfl) hle2 ?_
  refine GA.take 0 rfl (by kernel_rfl) (by kernel_rfl) (by kernel_rfl) (fun _ _ _ h => by obtain ⟨_, _, _, h, _⟩ := h; cases h) trivial rfl (OV.move (v := pv p_b) rfl) ?_
  obtain ⟨p3, hp4, h⟩ := h
  refine GA.take 1 rfl (by kernel_rfl) (by kernel_rfl) (by kernel_rfl) (fun _ _ _ h => by obtain ⟨_, _, _, h, _⟩ := h; cases h) trivial rfl (OV.nilCheck (q := p_b) rfl hp4) ?_
  refine GA.take 2 rfl (by kernel_rfl) (by kernel_rfl) (by kernel_rfl) (fun _ _ _ h => by obtain ⟨_, _, _, h, _⟩ := h; cases h) trivial rfl (OV.fieldAddr (p := p3) rfl rfl) ?_
  obtain ⟨x5, hr6, h⟩ := h
  refine GA.take 3 rfl (by kernel_rfl) (by kernel_rfl) (by kernel_rfl) (fun _ _ _ h => by obtain ⟨_, _, _, h, _⟩ := h; cases h) trivial rfl (OV.load (p := (p3.1, p3.2 + 1)) rfl rfl hr6) ?_
  refine GA.take 4 rfl (by kernel_rfl) (by kernel_rfl) (by kernel_rfl) (fun _ _ _ h => by obtain ⟨_, _, _, h, _⟩ := h; cases h) trivial rfl (OV.cap (s := x5) rfl rfl rfl) ?_
  refine GA.take 5 rfl (by kernel_rfl) (by kernel_rfl) (by kernel_rfl) (fun _ _ _ h => by obtain ⟨_, _, _, h, _⟩ := h; cases h) trivial rfl (OV.ibin (v := .int .i64 (w .i64 (2 * (Sl.cap x5 : Int)))) rfl rfl rfl) ?_
  refine GA.take 6 rfl (by kernel_rfl) (by kernel_rfl) (by kernel_rfl) (fun _ _ _ h => by obtain ⟨_, _, _, h, _⟩ := h; cases h) trivial rfl (OV.move (v := .int .i64 p_n) rfl) ?_
  refine GA.take 7 rfl (by kernel_rfl) (by kernel_rfl) (by kernel_rfl) (fun _ _ _ h => by obtain ⟨_, _, _, h, _⟩ := h; cases h) trivial rfl (OV.ibin (v := .int .i64 (w .i64 ((w .i64 (2 * (Sl.cap x5 : Int))) + p_n))) rfl rfl rfl) ?_
  refine GA.take 9 rfl (by kernel_rfl) (by kernel_rfl) (by kernel_rfl) (fun _ _ _ h => by obtain ⟨_, _, _, h, _⟩ := h; cases h) trivial rfl (OV.move (v := pv p_b) rfl) ?_
  obtain ⟨p7, hp8, h⟩ := h
  refine GA.take 10 rfl (by kernel_rfl) (by kernel_rfl) (by kernel_rfl) (fun _ _ _ h => by obtain ⟨_, _, _, h, _⟩ := h; cases h) trivial rfl (OV.nilCheck (q := p_b) rfl hp8) ?_
  refine GA.take 11 rfl (by kernel_rfl) (by kernel_rfl) (by kernel_rfl) (fun _ _ _ h => by obtain ⟨_, _, _, h, _⟩ := h; cases h) trivial rfl (OV.fieldAddr (p := p7) rfl rfl) ?_
  obtain ⟨x9, hr10, h⟩ := h
  refine GA.take 12 rfl (by kernel_rfl) (by kernel_rfl) (by kernel_rfl) (fun _ _ _ h => by obtain ⟨_, _, _, h, _⟩ := h; cases h) trivial rfl (OV.load (p := (p7.1, p7.2 + 1)) rfl rfl hr10) ?_
  refine GA.take 13 rfl (by kernel_rfl) (by kernel_rfl) (by kernel_rfl) (fun _ _ _ h => by obtain ⟨_, _, _, h, _⟩ := h; cases h) trivial rfl (OV.lenSl (s := x9) rfl rfl) ?_
  refine GA.eff 8 rfl (by kernel_rfl) ?_
  refine GL.mnz (e := 5) (m := w .i64 ((w .i64 (2 * (Sl.cap x5 : Int))) + p_n)) h trivial rfl ext_internal_bytealg_MakeNoZero rfl rfl ?_
  intro r12 H13 h
  obtain ⟨hle11, h⟩ := h
  refine GA.back hle11 ?_
  obtain ⟨h15, h16, h17, h18, t14, h19, h⟩ := h
  refine GA.take 14 rfl (by kernel_rfl) (by kernel_rfl) (by kernel_rfl) (fun _ _ _ h => by obtain ⟨_, _, _, h, _⟩ := h; cases h) trivial rfl (OV.sliceSl (s := r12) h15 h16 h17 h18 h19 rfl rfl rfl rfl rfl rfl rfl (fun h => by first | rfl | cases h) rfl rfl) ?_
  refine GA.take 15 rfl (by kernel_rfl) (by kernel_rfl) (by kernel_rfl) (fun _ _ _ h => by obtain ⟨_, _, _, h, _⟩ := h; cases h) trivial rfl (OV.assign (v := slv t14) rfl) ?_
  refine GA.done (by kernel_rfl) ?_
  refine GL.nil ?_
  refine GC.seq ?_
  refine GC.region ?_
  refine GL.val trivial rfl (OV.move (v := slv t14) rfl) ?_
  refine GL.val trivial rfl (OV.move (v := pv p_b) rfl) ?_
  obtain ⟨p20, hp21, h⟩ := h
  refine GL.val trivial rfl (OV.nilCheck (q := p_b) rfl hp21) ?_
  refine GL.val trivial rfl (OV.fieldAddr (p := p20) rfl rfl) ?_
  obtain ⟨x22, hr23, h⟩ := h
  refine GL.val trivial rfl (OV.load (p := (p20.1, p20.2 + 1)) rfl rfl hr23) ?_
  refine GL.copyG (s := t14) (s2 := x22) (z := 1) h trivial rfl rfl rfl rfl rfl ?_
  intro r24 H25 h
  refine GL.nil ?_
  refine GC.region ?_
  refine GL.val trivial rfl (OV.move (v := pv p_b) rfl) ?_
  refine GL.val trivial rfl (OV.move (v := slv t14) rfl) ?_
  obtain ⟨p26, hp27, h⟩ := h
  refine GL.val trivial rfl (OV.nilCheck (q := p_b) rfl hp27) ?_
  refine GL.val trivial rfl (OV.fieldAddr (p := p26) rfl rfl) ?_
  refine GL.storeG (p := (p26.1, p26.2 + 1)) (v := slv t14) h trivial rfl rfl rfl rfl ?_
  intro H28 h
  exact GL.ends (fun _ _ hf hs => post_tmp0 rfl hf hs ⟨rfl, h⟩)

def sh_unicode_utf8_decodeRuneInStringSlow (C : Ctx) (p_s : Str) (K : Int → Int → Heap → Prop) (H : Heap) : Prop :=
  ift (decide (((List.length p_s : Int) : Int) < 1))
 (K 65533 0 H)
 (ixs p_s 0 fun c2 =>
 False)

theorem ad_unicode_utf8_decodeRuneInStringSlow (C : Ctx) (p_s : Str) (K : Int → Int → Heap → Prop) (H : Heap) (h : sh_unicode_utf8_decodeRuneInStringSlow C p_s K H) : c_unicode_utf8_decodeRuneInStringSlow C p_s K H := by
  refine Spec.enter Tryd.func44 rfl Tryd.ntmps44 rfl ?_
  refine GC.sub [(0, sv p_s)] ⟨rfl, trivial⟩ ?_
  refine GC.seq ?_
  refine GC.region ?_
  refine GL.val trivial rfl (OV.assign (v := .int .i32 0) rfl) ?_
  refine GL.val trivial rfl (OV.assign (v := .int .i64 0) rfl) ?_
  refine GL.nil ?_
  refine GC.seq ?_
  refine GC.region ?_
  refine GL.val trivial rfl (OV.move (v := sv p_s) rfl) ?_
  refine GL.val trivial rfl (OV.lenStr (s := p_s) rfl rfl) ?_
  refine GL.val trivial rfl (OV.assign (v := .int .i64 (List.length p_s : Int)) rfl) ?_
  refine GL.nil ?_
  refine GC.seq ?_
  refine GC.seq ?_
  refine GC.region ?_
  refine GL.val trivial rfl (OV.move (v := .int .i64 (List.length p_s : Int)) rfl) ?_
  refine GL.val trivial rfl (OV.ibin (v := .bool (decide (((List.length p_s : Int) : Int) < 1))) rfl rfl rfl) ?_
  refine GL.nil ?_
  refine GC.cond (b := decide (((List.length p_s : Int) : Int) < 1)) rfl (fun hc1 => ?_) (fun hc1 => ?_)
  · replace h := And.left h hc1
    refine GC.seq ?_
    refine GC.region ?_
    refine GL.val trivial rfl (OV.assign (v := .int .i32 65533) rfl) ?_
    refine GL.val trivial rfl (OV.assign (v := .int .i64 0) rfl) ?_
    refine GL.nil ?_
    exact GC.ret (fun _ _ hf hs => post_tmp2 rfl rfl rfl hf hs ⟨65533, 0, rfl, h⟩)
  · replace h := And.right h hc1
    refine GC.skip ?_
    refine GC.seq ?_
    refine GC.region ?_
    refine GL.val trivial rfl (OV.move (v := sv p_s) rfl) ?_
    obtain ⟨c2, ha3, hb4, h⟩ := h
    refine GL.val trivial rfl (OV.indexStr (s := p_s) rfl rfl rfl ha3 hb4) ?_
    refine GL.val trivial rfl (OV.assign (v := .int .u8 (c2.toNat : Int)) rfl) ?_
    refine GL.nil ?_
    refine GC.seq ?_
    exact GC.never h

def sh_internal_bytealg_hashStr_string (C : Ctx) (p_sep : Str) (K : Int → Int → Heap → Prop) (H : Heap) : Prop :=
  lp (α := Int × Int) (0, 0) H (fun x1 J2 H3 =>
 ift (decide ((x1.2 : Int) < (List.length p_sep : Int)))
 (ixs p_sep x1.2 fun c5 =>
 J2 ((w .u32 ((w .u32 (x1.1 * 16777619)) + (w .u32 (c5.toNat : Int)))), (w .i64 (x1.2 + 1))) H3)
 (lp (α := Int × Int × Int) (1, 16777619, (List.length p_sep : Int)) H3 (fun x8 J9 H10 =>
 ift (decide ((x8.2.2 : Int) > 0))
 (jn (α := Int) (fun x13 H14 =>
 J9 (x13, (w .u32 (x8.2.1 * x8.2.1)), (sShr .i64 x8.2.2 1)) H14)
 (fun J12 => ift (((bAnd .i64 x8.2.2 1) : Int) != 0)
 (J12 (w .u32 (x8.1 * x8.2.1)) H10)
 (J12 x8.1 H10)))
 (K x1.1 x8.1 H10))))

theorem ad_internal_bytealg_hashStr_string (C : Ctx) (p_sep : Str) (K : Int → Int → Heap → Prop) (H : Heap) (h : sh_internal_bytealg_hashStr_string C p_sep K H) : c_internal_bytealg_hashStr_string C p_sep K H := by
  refine Spec.enter Tryd.func46 rfl Tryd.ntmps46 rfl ?_
  refine GC.sub [(0, sv p_sep)] ⟨rfl, trivial⟩ ?_
  refine GC.seq ?_
  refine GC.region ?_
  refine GL.val trivial rfl (OV.assign (v := .int .u32 0) rfl) ?_
  refine GL.val trivial rfl (OV.assign (v := .int .u32 0) rfl) ?_
  refine GL.nil ?_
  refine GC.seq ?_
  refine GC.region ?_
  refine GL.val trivial rfl (OV.assign (v := .int .u32 0) rfl) ?_
  refine GL.nil ?_
  refine GC.seq ?_
  refine GC.seq ?_
  refine GC.region ?_
  refine GL.val trivial rfl (OV.assign (v := .int .i64 0) rfl) ?_
  refine GL.nil ?_
  refine GC.block ?_
  refine GC.loop (α := Int × Int) h (fun x1 => [(4, .int .u32 x1.1), (5, .int .i64 x1.2), (0, sv p_sep)]) ⟨rfl, rfl, rfl, trivial⟩ ?_
  intro x1 H3 J2 h
  refine GC.seq ?_
  refine GC.seq ?_
  refine GC.region ?_
  refine GL.val trivial rfl (OV.move (v := .int .i64 x1.2) rfl) ?_
  refine GL.val trivial rfl (OV.move (v := sv p_sep) rfl) ?_
  refine GL.val trivial rfl (OV.lenStr (s := p_sep) rfl rfl) ?_
  refine GL.val trivial rfl (OV.ibin (v := .bool (decide ((x1.2 : Int) < (List.length p_sep : Int)))) rfl rfl rfl) ?_
  refine GL.nil ?_
  refine GC.cond (b := decide ((x1.2 : Int) < (List.length p_sep : Int))) rfl (fun hc4 => ?_) (fun hc4 => ?_)
  · replace h := And.left h hc4
    refine GC.skip ?_
    refine GC.seq ?_
    refine GC.block ?_
    refine GC.region ?_
    refine GL.val trivial rfl (OV.move (v := .int .u32 x1.1) rfl) ?_
    refine GL.val trivial rfl (OV.ibin (v := .int .u32 (w .u32 (x1.1 * 16777619))) rfl rfl rfl) ?_
    refine GL.val trivial rfl (OV.move (v := sv p_sep) rfl) ?_
    refine GL.val trivial rfl (OV.move (v := .int .i64 x1.2) rfl) ?_
    obtain ⟨c5, ha6, hb7, h⟩ := h
    refine GL.val trivial rfl (OV.indexStr (s := p_sep) rfl rfl rfl ha6 hb7) ?_
    refine GL.val trivial rfl (OV.convInt rfl rfl rfl) ?_
    refine GL.val trivial rfl (OV.ibin (v := .int .u32 (w .u32 ((w .u32 (x1.1 * 16777619)) + (w .u32 (c5.toNat : Int))))) rfl rfl rfl) ?_
    refine GL.val trivial rfl (OV.assign (v := .int .u32 (w .u32 ((w .u32 (x1.1 * 16777619)) + (w .u32 (c5.toNat : Int))))) rfl) ?_
    refine GL.nil_to (fun _ _ h => h) ?_
    refine GC.region ?_
    refine GL.val trivial rfl (OV.move (v := .int .i64 x1.2) rfl) ?_
    refine GL.val trivial rfl (OV.ibin (v := .int .i64 (w .i64 (x1.2 + 1))) rfl rfl rfl) ?_
    refine GL.val trivial rfl (OV.assign (v := .int .i64 (w .i64 (x1.2 + 1))) rfl) ?_
    exact GL.jump (fun _ _ h => h) ((w .u32 ((w .u32 (x1.1 * 16777619)) + (w .u32 (c5.toNat : Int)))), (w .i64 (x1.2 + 1))) h ⟨rfl, rfl, rfl, trivial⟩
  · replace h := And.right h hc4
    refine GC.exit_to (fun _ _ h => h) ?_
    refine GC.seq ?_
    refine GC.region ?_
    refine GL.val trivial rfl (OV.assign (v := .int .u32 1) rfl) ?_
    refine GL.val trivial rfl (OV.assign (v := .int .u32 16777619) rfl) ?_
    refine GL.nil ?_
    refine GC.seq ?_
    refine GC.seq ?_
    refine GC.region ?_
    refine GL.val trivial rfl (OV.move (v := sv p_sep) rfl) ?_
    refine GL.val trivial rfl (OV.lenStr (s := p_sep) rfl rfl) ?_
    refine GL.val trivial rfl (OV.assign (v := .int .i64 (List.length p_sep : Int)) rfl) ?_
    refine GL.nil ?_
    refine GC.block ?_
    refine GC.loop (α := Int × Int × Int) h (fun x8 => [(6, .int .u32 x8.1), (7, .int .u32 x8.2.1), (8, .int .i64 x8.2.2), (4, .int .u32 x1.1)]) ⟨rfl, rfl, rfl, rfl, trivial⟩ ?_
    intro x8 H10 J9 h
    refine GC.seq ?_
    refine GC.seq ?_
    refine GC.region ?_
    refine GL.val trivial rfl (OV.move (v := .int .i64 x8.2.2) rfl) ?_
    refine GL.val trivial rfl (OV.ibin (v := .bool (decide ((x8.2.2 : Int) > 0))) rfl rfl rfl) ?_
    refine GL.nil ?_
    refine GC.cond (b := decide ((x8.2.2 : Int) > 0)) rfl (fun hc11 => ?_) (fun hc11 => ?_)
    · replace h := And.left h hc11
      refine GC.skip ?_
      refine GC.seq ?_
      refine GC.block ?_
      obtain ⟨J12, h, hR15⟩ := h
      refine GC.join (α := Int) J12 (fun x13 => [(6, .int .u32 x13), (4, .int .u32 x1.1), (7, .int .u32 x8.2.1), (8, .int .i64 x8.2.2)]) ?_ ?_
      · skip
        refine GC.seq ?_
        refine GC.region ?_
        refine GL.val trivial rfl (OV.move (v := .int .i64 x8.2.2) rfl) ?_
        refine GL.val trivial rfl (OV.ibin (v := .int .i64 (bAnd .i64 x8.2.2 1)) rfl rfl rfl) ?_
        refine GL.val trivial rfl (OV.ibin (v := .bool (((bAnd .i64 x8.2.2 1) : Int) != 0)) rfl rfl rfl) ?_
        refine GL.nil ?_
        refine GC.cond (b := ((bAnd .i64 x8.2.2 1) : Int) != 0) rfl (fun hc16 => ?_) (fun hc16 => ?_)
        · replace h := And.left h hc16
          refine GC.region ?_
          refine GL.val trivial rfl (OV.move (v := .int .u32 x8.1) rfl) ?_
          refine GL.val trivial rfl (OV.move (v := .int .u32 x8.2.1) rfl) ?_
          refine GL.val trivial rfl (OV.ibin (v := .int .u32 (w .u32 (x8.1 * x8.2.1))) rfl rfl rfl) ?_
          refine GL.val trivial rfl (OV.assign (v := .int .u32 (w .u32 (x8.1 * x8.2.1))) rfl) ?_
          exact GL.jump (fun _ _ h => h) (w .u32 (x8.1 * x8.2.1)) h ⟨rfl, rfl, rfl, rfl, trivial⟩
        · replace h := And.right h hc16
          exact GC.jump (fun _ _ h => h) x8.1 h ⟨rfl, rfl, rfl, rfl, trivial⟩
      · intro x13 H14 h
        replace h := hR15 x13 H14 h
        refine GC.region ?_
        refine GL.val trivial rfl (OV.move (v := .int .u32 x8.2.1) rfl) ?_
        refine GL.val trivial rfl (OV.move (v := .int .u32 x8.2.1) rfl) ?_
        refine GL.val trivial rfl (OV.ibin (v := .int .u32 (w .u32 (x8.2.1 * x8.2.1))) rfl rfl rfl) ?_
        refine GL.val trivial rfl (OV.assign (v := .int .u32 (w .u32 (x8.2.1 * x8.2.1))) rfl) ?_
        refine GL.nil_to (fun _ _ h => h) ?_
        refine GC.region ?_
        refine GL.val trivial rfl (OV.move (v := .int .i64 x8.2.2) rfl) ?_
        refine GL.val trivial rfl (OV.shr rfl rfl (by decide)) ?_
        refine GL.val trivial rfl (OV.assign (v := .int .i64 (sShr .i64 x8.2.2 1)) rfl) ?_
        exact GL.jump (fun _ _ h => h) (x13, (w .u32 (x8.2.1 * x8.2.1)), (sShr .i64 x8.2.2 1)) h ⟨rfl, rfl, rfl, rfl, trivial⟩
    · replace h := And.right h hc11
      refine GC.exit_to (fun _ _ h => h) ?_
      refine GC.seq ?_
      refine GC.region ?_
      refine GL.val trivial rfl (OV.move (v := .int .u32 x1.1) rfl) ?_
      refine GL.val trivial rfl (OV.move (v := .int .u32 x8.1) rfl) ?_
      refine GL.val trivial rfl (OV.assign (v := .int .u32 x1.1) rfl) ?_
      refine GL.val trivial rfl (OV.assign (v := .int .u32 x8.1) rfl) ?_
      refine GL.nil ?_
      exact GC.ret (fun _ _ hf hs => post_tmp2 rfl rfl rfl hf hs ⟨x1.1, x8.1, rfl, h⟩)
end Sx

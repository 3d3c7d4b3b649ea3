/-
  Texts of this family, one behind the other: Sh3, Sh, ValQ, ValU.
-/
import Derived.Test.YtlpjpjbgfffffaaDoorA2
set_option linter.unusedVariables false
set_option maxRecDepth 100000
namespace Sx
open Go Go.Proofs
def sh_code_Reader_next (C : Ctx) (p_r : Option (Nat × Nat)) (K : Int → Heap → Prop) (H : Heap) : Prop :=
  nck p_r fun p1 =>
 ldL H (p1.1, p1.2 + 0) fun x3 =>
 c_code_Reader_ask C p_r (decide (((Sl.len x3 : Int) : Int) > 0)) (fun r5 H6 =>
 ift (!r5)
 (K 0 H6)
 (nck p_r fun p8 =>
 ldL H6 (p8.1, p8.2 + 0) fun x10 =>
 ixa x10 0 fun p12 =>
 ldI H6 .u8 (p12.1, p12.2 + (0 : Int).toNat * 1) fun x17 =>
 nck p_r fun p19 =>
 ldI H6 .u8 (p19.1, p19.2 + 1) fun x21 =>
 nck p_r fun p23 =>
 ldL H6 (p23.1, p23.2 + 0) fun x25 =>
 slL x25 1 (Sl.len x25 : Int) (Sl.cap x25 : Int) 1 fun t27 =>
 nck p_r fun p33 =>
 st (p33.1, p33.2 + 0) (slv t27) (fun H35 =>
 K (bXor .u8 x17 x21) H35) H6)) H

theorem ad_code_Reader_next (C : Ctx) (p_r : Option (Nat × Nat)) (K : Int → Heap → Prop) (H : Heap) (h : sh_code_Reader_next C p_r K H) : c_code_Reader_next C p_r K H := by
  refine Spec.enter Tryd.func62 rfl Tryd.ntmps62 rfl ?_
  refine GC.sub [(0, pv p_r)] ⟨rfl, trivial⟩ ?_
  refine GC.seq ?_
  refine GC.region ?_
  refine GL.val trivial rfl (OV.assign (v := .int .u8 0) rfl) ?_
  refine GL.nil ?_
  refine GC.seq ?_
  refine GC.seq ?_
  refine GC.region ?_
  refine GL.val trivial rfl (OV.move (v := pv p_r) rfl) ?_
  refine GL.val trivial rfl (OV.move (v := pv p_r) rfl) ?_
  obtain ⟨p1, hp2, h⟩ := h
  refine GL.val trivial rfl (OV.nilCheck (q := p_r) rfl hp2) ?_
  refine GL.val trivial rfl (OV.fieldAddr (p := p1) rfl rfl) ?_
  obtain ⟨x3, hr4, h⟩ := h
  refine GL.val trivial rfl (OV.load (p := (p1.1, p1.2 + 0)) rfl rfl hr4) ?_
  refine GL.val trivial rfl (OV.lenSl (s := x3) rfl rfl) ?_
  refine GL.val trivial rfl (OV.ibin (v := .bool (decide (((Sl.len x3 : Int) : Int) > 0))) rfl rfl rfl) ?_
  refine GL.call h trivial rfl ok_code_Reader_ask (vs := [pv p_r, .bool (decide (((Sl.len x3 : Int) : Int) > 0))]) rfl ?_
  rintro _ H6 ⟨r5, rfl, h⟩
  refine GL.val trivial rfl (OV.not rfl) ?_
  refine GL.nil ?_
  refine GC.cond (b := !r5) rfl (fun hc7 => ?_) (fun hc7 => ?_)
  · replace h := And.left h hc7
    refine GC.seq ?_
    refine GC.region ?_
    refine GL.val trivial rfl (OV.assign (v := .int .u8 0) rfl) ?_
    refine GL.nil ?_
    exact GC.ret (fun _ _ hf hs => post_tmp1 rfl rfl hf hs ⟨0, rfl, h⟩)
  · replace h := And.right h hc7
    refine GC.skip ?_
    refine GC.seq ?_
    refine GC.draw (by kernel_rfl) (by kernel_rfl) ?_
    refine GQ.val trivial rfl (OV.move (v := pv p_r) rfl) ?_
    obtain ⟨p8, hp9, h⟩ := h
    refine GQ.val trivial rfl (OV.nilCheck (q := p_r) rfl hp9) ?_
    refine GQ.val trivial rfl (OV.fieldAddr (p := p8) rfl rfl) ?_
    obtain ⟨x10, hr11, h⟩ := h
    refine GQ.val trivial rfl (OV.load (p := (p8.1, p8.2 + 0)) rfl rfl hr11) ?_
    obtain ⟨p12, ha13, hb14, hc15, hd16, h⟩ := h
    refine GQ.val trivial rfl (OV.indexAddr (s := x10) rfl rfl rfl rfl ha13 hb14 hc15 hd16) ?_
    obtain ⟨x17, hr18, h⟩ := h
    refine GQ.val trivial rfl (OV.load (p := (p12.1, p12.2 + (0 : Int).toNat * 1)) rfl rfl hr18) ?_
    refine GQ.val trivial rfl (OV.move (v := pv p_r) rfl) ?_
    obtain ⟨p19, hp20, h⟩ := h
    refine GQ.val trivial rfl (OV.nilCheck (q := p_r) rfl hp20) ?_
    refine GQ.val trivial rfl (OV.fieldAddr (p := p19) rfl rfl) ?_
    obtain ⟨x21, hr22, h⟩ := h
    refine GQ.val trivial rfl (OV.load (p := (p19.1, p19.2 + 1)) rfl rfl hr22) ?_
    refine GQ.val trivial rfl (OV.ibin (v := .int .u8 (bXor .u8 x17 x21)) rfl rfl rfl) ?_
    refine GQ.val trivial rfl (OV.assign (v := .int .u8 (bXor .u8 x17 x21)) rfl) ?_
    refine GQ.nil ?_
    refine GL.nil ?_
    refine GC.seq ?_
    refine GC.region ?_
    refine GL.val trivial rfl (OV.move (v := pv p_r) rfl) ?_
    refine GL.val trivial rfl (OV.move (v := pv p_r) rfl) ?_
    obtain ⟨p23, hp24, h⟩ := h
    refine GL.val trivial rfl (OV.nilCheck (q := p_r) rfl hp24) ?_
    refine GL.val trivial rfl (OV.fieldAddr (p := p23) rfl rfl) ?_
    obtain ⟨x25, hr26, h⟩ := h
    refine GL.val trivial rfl (OV.load (p := (p23.1, p23.2 + 0)) rfl rfl hr26) ?_
    obtain ⟨h28, h29, h30, h31, t27, h32, h⟩ := h
    refine GL.val trivial rfl (OV.sliceSl (s := x25) h28 h29 h30 h31 h32 rfl rfl rfl rfl rfl rfl rfl (fun h => by first | rfl | cases h) rfl rfl) ?_
    obtain ⟨p33, hp34, h⟩ := h
    refine GL.val trivial rfl (OV.nilCheck (q := p_r) rfl hp34) ?_
    refine GL.val trivial rfl (OV.fieldAddr (p := p33) rfl rfl) ?_
    refine GL.store (p := (p33.1, p33.2 + 0)) (v := slv t27) h trivial rfl rfl rfl rfl ?_
    intro H35 h
    refine GL.nil ?_
    refine GC.seq ?_
    refine GC.region ?_
    refine GL.val trivial rfl (OV.move (v := .int .u8 (bXor .u8 x17 x21)) rfl) ?_
    refine GL.val trivial rfl (OV.assign (v := .int .u8 (bXor .u8 x17 x21)) rfl) ?_
    refine GL.nil ?_
    exact GC.ret (fun _ _ hf hs => post_tmp1 rfl rfl hf hs ⟨(bXor .u8 x17 x21), rfl, h⟩)

def sh_code_Reader_flip (C : Ctx) (p_r : Option (Nat × Nat)) (p_is : Bool) (K : Heap → Prop) (H : Heap) : Prop :=
  ift p_is
 (nck p_r fun p2 =>
 ldI H .u8 (p2.1, p2.2 + 1) fun x4 =>
 nck p_r fun p6 =>
 st (p6.1, p6.2 + 1) (.int .u8 (bXor .u8 x4 255)) (fun H8 =>
 K H8) H)
 (K H)

theorem ad_code_Reader_flip (C : Ctx) (p_r : Option (Nat × Nat)) (p_is : Bool) (K : Heap → Prop) (H : Heap) (h : sh_code_Reader_flip C p_r p_is K H) : c_code_Reader_flip C p_r p_is K H := by
  refine Spec.enter Tryd.func63 rfl Tryd.ntmps63 rfl ?_
  refine GC.sub [(0, pv p_r), (1, .bool p_is)] ⟨rfl, rfl, trivial⟩ ?_
  refine GC.seq ?_
  refine GC.region ?_
  refine GL.val trivial rfl (OV.move (v := .bool p_is) rfl) ?_
  refine GL.nil ?_
  refine GC.cond (b := p_is) rfl (fun hc1 => ?_) (fun hc1 => ?_)
  · replace h := And.left h hc1
    refine GC.region ?_
    refine GL.val trivial rfl (OV.move (v := pv p_r) rfl) ?_
    obtain ⟨p2, hp3, h⟩ := h
    refine GL.val trivial rfl (OV.nilCheck (q := p_r) rfl hp3) ?_
    refine GL.val trivial rfl (OV.fieldAddr (p := p2) rfl rfl) ?_
    obtain ⟨x4, hr5, h⟩ := h
    refine GL.val trivial rfl (OV.load (p := (p2.1, p2.2 + 1)) rfl rfl hr5) ?_
    refine GL.val trivial rfl (OV.ibin (v := .int .u8 (bXor .u8 x4 255)) rfl rfl rfl) ?_
    obtain ⟨p6, hp7, h⟩ := h
    refine GL.val trivial rfl (OV.nilCheck (q := p_r) rfl hp7) ?_
    refine GL.val trivial rfl (OV.fieldAddr (p := p6) rfl rfl) ?_
    refine GL.store (p := (p6.1, p6.2 + 1)) (v := .int .u8 (bXor .u8 x4 255)) h trivial rfl rfl rfl rfl ?_
    intro H8 h
    exact GL.ends (fun _ _ hf hs => post_tmp0 rfl hf hs ⟨rfl, h⟩)
  · replace h := And.right h hc1
    exact GC.ends (fun _ _ hf hs => post_tmp0 rfl hf hs ⟨rfl, h⟩)

def sh_code_Reader_number (C : Ctx) (p_r : Option (Nat × Nat)) (p_k : Int) (p_most : Int) (K : Int → Heap → Prop) (H : Heap) : Prop :=
  c_code_Reader_ask C p_r ((decide ((p_k : Int) ≥ 0)) && (decide ((p_k : Int) ≤ p_most))) (fun r2 H3 =>
 ift (!r2)
 (K 0 H3)
 (lp (α := Int × Int) (0, 0) H3 (fun x5 J6 H7 =>
 ift (decide ((x5.2 : Int) < p_k))
 (c_code_Reader_next C p_r (fun r9 H10 =>
 c_code_Reader_ask C p_r ((decide ((x5.2 : Int) > 0)) || ((r9 : Int) != 0)) (fun r12 H13 =>
 J6 ((bOr .u64 (sShl .u64 x5.1 8) (w .u64 r9)), (w .i64 (x5.2 + 1))) H13) H10) H7)
 (K x5.1 H7)))) H

theorem ad_code_Reader_number (C : Ctx) (p_r : Option (Nat × Nat)) (p_k : Int) (p_most : Int) (K : Int → Heap → Prop) (H : Heap) (h : sh_code_Reader_number C p_r p_k p_most K H) : c_code_Reader_number C p_r p_k p_most K H := by
  refine Spec.enter Tryd.func64 rfl Tryd.ntmps64 rfl ?_
  refine GC.sub [(0, pv p_r), (1, .int .i64 p_k), (2, .int .i64 p_most)] ⟨rfl, rfl, rfl, trivial⟩ ?_
  refine GC.seq ?_
  refine GC.region ?_
  refine GL.val trivial rfl (OV.assign (v := .int .u64 0) rfl) ?_
  refine GL.nil ?_
  refine GC.seq ?_
  refine GC.region ?_
  refine GL.val trivial rfl (OV.assign (v := .int .u64 0) rfl) ?_
  refine GL.nil ?_
  refine GC.seq ?_
  refine GC.seq ?_
  refine GC.region ?_
  refine GL.val trivial rfl (OV.move (v := pv p_r) rfl) ?_
  refine GL.val trivial rfl (OV.move (v := .int .i64 p_k) rfl) ?_
  refine GL.val trivial rfl (OV.ibin (v := .bool (decide ((p_k : Int) ≥ 0))) rfl rfl rfl) ?_
  refine GL.val trivial rfl (OV.move (v := .bool (decide ((p_k : Int) ≥ 0))) rfl) ?_
  refine GL.cut0 4 [(17, .bool ((decide ((p_k : Int) ≥ 0)) && (decide ((p_k : Int) ≤ p_most)))), (0, pv p_r), (1, .int .i64 p_k), (7, .int .u64 0), (10, pv p_r)] ?_ ?_
  · rcases Bool.eq_false_or_eq_true (decide ((p_k : Int) ≥ 0)) with hc1 | hc1
    · skip
      refine GL.val ⟨_, _, rfl, rfl, hc1⟩ rfl (OV.move (v := .int .i64 p_k) rfl) ?_
      refine GL.val ⟨_, _, rfl, rfl, hc1⟩ rfl (OV.move (v := .int .i64 p_most) rfl) ?_
      refine GL.val ⟨_, _, rfl, rfl, hc1⟩ rfl (OV.ibin (v := .bool (decide ((p_k : Int) ≤ p_most))) rfl rfl rfl) ?_
      refine GL.val trivial rfl (OV.pickT (b := decide ((p_k : Int) ≥ 0)) (v := .bool (decide ((p_k : Int) ≤ p_most))) rfl hc1 rfl) ?_
      exact GL.jump0 (fun _ _ h => h) () rfl ⟨(by rw [hc1]; rfl), rfl, rfl, rfl, rfl, trivial⟩
    · skip
      refine GL.skip ⟨_, rfl, .inl ⟨_, rfl, hc1⟩⟩ rfl ?_
      refine GL.skip ⟨_, rfl, .inl ⟨_, rfl, hc1⟩⟩ rfl ?_
      refine GL.skip ⟨_, rfl, .inl ⟨_, rfl, hc1⟩⟩ rfl ?_
      refine GL.val trivial rfl (OV.pickF (b := decide ((p_k : Int) ≥ 0)) (v := .bool false) rfl hc1 rfl) ?_
      exact GL.jump0 (fun _ _ h => h) () rfl ⟨(by rw [hc1]; rfl), rfl, rfl, rfl, rfl, trivial⟩
  refine GL.call h trivial rfl ok_code_Reader_ask (vs := [pv p_r, .bool ((decide ((p_k : Int) ≥ 0)) && (decide ((p_k : Int) ≤ p_most)))]) rfl ?_
  rintro _ H3 ⟨r2, rfl, h⟩
  refine GL.val trivial rfl (OV.not rfl) ?_
  refine GL.nil ?_
  refine GC.cond (b := !r2) rfl (fun hc4 => ?_) (fun hc4 => ?_)
  · replace h := And.left h hc4
    refine GC.seq ?_
    refine GC.region ?_
    refine GL.val trivial rfl (OV.assign (v := .int .u64 0) rfl) ?_
    refine GL.nil ?_
    exact GC.ret (fun _ _ hf hs => post_tmp1 rfl rfl hf hs ⟨0, rfl, h⟩)
  · replace h := And.right h hc4
    refine GC.skip ?_
    refine GC.seq ?_
    refine GC.seq ?_
    refine GC.region ?_
    refine GL.val trivial rfl (OV.move (v := .int .i64 p_k) rfl) ?_
    refine GL.val trivial rfl (OV.move (v := .int .i64 0) rfl) ?_
    refine GL.nil ?_
    refine GC.block ?_
    refine GC.loop (α := Int × Int) h (fun x5 => [(7, .int .u64 x5.1), (21, .int .i64 x5.2), (0, pv p_r), (20, .int .i64 p_k)]) ⟨rfl, rfl, rfl, rfl, trivial⟩ ?_
    intro x5 H7 J6 h
    refine GC.seq ?_
    refine GC.region ?_
    refine GL.val trivial rfl (OV.ibin (v := .bool (decide ((x5.2 : Int) < p_k))) rfl rfl rfl) ?_
    refine GL.nil ?_
    refine GC.seq ?_
    refine GC.cond (b := decide ((x5.2 : Int) < p_k)) rfl (fun hc8 => ?_) (fun hc8 => ?_)
    · replace h := And.left h hc8
      refine GC.skip ?_
      refine GC.seq ?_
      refine GC.block ?_
      refine GC.seq ?_
      refine GC.region ?_
      refine GL.val trivial rfl (OV.move (v := .int .i64 x5.2) rfl) ?_
      refine GL.val trivial rfl (OV.assign (v := .int .i64 x5.2) rfl) ?_
      refine GL.nil ?_
      refine GC.seq ?_
      refine GC.region ?_
      refine GL.val trivial rfl (OV.move (v := pv p_r) rfl) ?_
      refine GL.call h trivial rfl ok_code_Reader_next (vs := [pv p_r]) rfl ?_
      rintro _ H10 ⟨r9, rfl, h⟩
      refine GL.val trivial rfl (OV.assign (v := .int .u8 r9) rfl) ?_
      refine GL.nil ?_
      refine GC.seq ?_
      refine GC.region ?_
      refine GL.val trivial rfl (OV.move (v := pv p_r) rfl) ?_
      refine GL.val trivial rfl (OV.move (v := .int .i64 x5.2) rfl) ?_
      refine GL.val trivial rfl (OV.ibin (v := .bool (decide ((x5.2 : Int) > 0))) rfl rfl rfl) ?_
      refine GL.val trivial rfl (OV.move (v := .bool (decide ((x5.2 : Int) > 0))) rfl) ?_
      refine GL.cut0 3 [(32, .bool ((decide ((x5.2 : Int) > 0)) || ((r9 : Int) != 0))), (0, pv p_r), (7, .int .u64 x5.1), (9, .int .u8 r9), (20, .int .i64 p_k), (21, .int .i64 x5.2), (26, pv p_r)] ?_ ?_
      · rcases Bool.eq_false_or_eq_true (decide ((x5.2 : Int) > 0)) with hc11 | hc11
        · skip
          refine GL.skip ⟨_, rfl, .inl ⟨_, rfl, hc11⟩⟩ rfl ?_
          refine GL.skip ⟨_, rfl, .inl ⟨_, rfl, hc11⟩⟩ rfl ?_
          refine GL.val trivial rfl (OV.pickT (b := decide ((x5.2 : Int) > 0)) (v := .bool true) rfl hc11 rfl) ?_
          exact GL.jump0 (fun _ _ h => h) () rfl ⟨(by rw [hc11]; rfl), rfl, rfl, rfl, rfl, rfl, rfl, trivial⟩
        · skip
          refine GL.val ⟨_, _, rfl, rfl, hc11⟩ rfl (OV.move (v := .int .u8 r9) rfl) ?_
          refine GL.val ⟨_, _, rfl, rfl, hc11⟩ rfl (OV.ibin (v := .bool ((r9 : Int) != 0)) rfl rfl rfl) ?_
          refine GL.val trivial rfl (OV.pickF (b := decide ((x5.2 : Int) > 0)) (v := .bool ((r9 : Int) != 0)) rfl hc11 rfl) ?_
          exact GL.jump0 (fun _ _ h => h) () rfl ⟨(by rw [hc11]; rfl), rfl, rfl, rfl, rfl, rfl, rfl, trivial⟩
      refine GL.call h trivial rfl ok_code_Reader_ask (vs := [pv p_r, .bool ((decide ((x5.2 : Int) > 0)) || ((r9 : Int) != 0))]) rfl ?_
      rintro _ H13 ⟨r12, rfl, h⟩
      refine GL.nil ?_
      refine GC.region ?_
      refine GL.val trivial rfl (OV.move (v := .int .u64 x5.1) rfl) ?_
      refine GL.val trivial rfl (OV.shl rfl rfl (by decide)) ?_
      refine GL.val trivial rfl (OV.move (v := .int .u8 r9) rfl) ?_
      refine GL.val trivial rfl (OV.convInt rfl rfl rfl) ?_
      refine GL.val trivial rfl (OV.ibin (v := .int .u64 (bOr .u64 (sShl .u64 x5.1 8) (w .u64 r9))) rfl rfl rfl) ?_
      refine GL.val trivial rfl (OV.assign (v := .int .u64 (bOr .u64 (sShl .u64 x5.1 8) (w .u64 r9))) rfl) ?_
      refine GL.nil_to (fun _ _ h => h) ?_
      refine GC.region ?_
      refine GL.val trivial rfl (OV.ibin (v := .int .i64 (w .i64 (x5.2 + 1))) rfl rfl rfl) ?_
      refine GL.val trivial rfl (OV.move (v := .int .i64 (w .i64 (x5.2 + 1))) rfl) ?_
      exact GL.jump (fun _ _ h => h) ((bOr .u64 (sShl .u64 x5.1 8) (w .u64 r9)), (w .i64 (x5.2 + 1))) h ⟨rfl, rfl, rfl, rfl, trivial⟩
    · replace h := And.right h hc8
      refine GC.exit_to (fun _ _ h => h) ?_
      refine GC.seq ?_
      refine GC.region ?_
      refine GL.val trivial rfl (OV.move (v := .int .u64 x5.1) rfl) ?_
      refine GL.val trivial rfl (OV.assign (v := .int .u64 x5.1) rfl) ?_
      refine GL.nil ?_
      exact GC.ret (fun _ _ hf hs => post_tmp1 rfl rfl hf hs ⟨x5.1, rfl, h⟩)

def sh_code_Reader_ask (C : Ctx) (p_r : Option (Nat × Nat)) (p_ok : Bool) (K : Bool → Heap → Prop) (H : Heap) : Prop :=
  jn (α := Unit) (fun x2 H3 =>
 nck p_r fun p12 =>
 ldB H3 (p12.1, p12.2 + 2) fun x14 =>
 K (!x14) H3)
 (fun J1 => ift (!p_ok)
 (nck p_r fun p6 =>
 st (p6.1, p6.2 + 0) (slv Sl.nil) (fun H8 =>
 nck p_r fun p9 =>
 st (p9.1, p9.2 + 2) (.bool true) (fun H11 =>
 J1 () H11) H8) H)
 (J1 () H))

theorem ad_code_Reader_ask (C : Ctx) (p_r : Option (Nat × Nat)) (p_ok : Bool) (K : Bool → Heap → Prop) (H : Heap) (h : sh_code_Reader_ask C p_r p_ok K H) : c_code_Reader_ask C p_r p_ok K H := by
  refine Spec.enter Tryd.func65 rfl Tryd.ntmps65 rfl ?_
  refine GC.sub [(0, pv p_r), (1, .bool p_ok)] ⟨rfl, rfl, trivial⟩ ?_
  refine GC.seq ?_
  refine GC.region ?_
  refine GL.val trivial rfl (OV.assign (v := .bool false) rfl) ?_
  refine GL.nil ?_
  obtain ⟨J1, h, hR4⟩ := h
  refine GC.join (α := Unit) J1 (fun _ => [(0, pv p_r)]) ?_ ?_
  · skip
    refine GC.seq ?_
    refine GC.region ?_
    refine GL.val trivial rfl (OV.move (v := .bool p_ok) rfl) ?_
    refine GL.val trivial rfl (OV.not rfl) ?_
    refine GL.nil ?_
    refine GC.cond (b := !p_ok) rfl (fun hc5 => ?_) (fun hc5 => ?_)
    · replace h := And.left h hc5
      refine GC.region ?_
      refine GL.val trivial rfl (OV.move (v := pv p_r) rfl) ?_
      refine GL.val trivial rfl (OV.move (v := pv p_r) rfl) ?_
      obtain ⟨p6, hp7, h⟩ := h
      refine GL.val trivial rfl (OV.nilCheck (q := p_r) rfl hp7) ?_
      refine GL.val trivial rfl (OV.fieldAddr (p := p6) rfl rfl) ?_
      refine GL.store (p := (p6.1, p6.2 + 0)) (v := slv Sl.nil) h trivial rfl rfl rfl rfl ?_
      intro H8 h
      obtain ⟨p9, hp10, h⟩ := h
      refine GL.val trivial rfl (OV.nilCheck (q := p_r) rfl hp10) ?_
      refine GL.val trivial rfl (OV.fieldAddr (p := p9) rfl rfl) ?_
      refine GL.store (p := (p9.1, p9.2 + 2)) (v := .bool true) h trivial rfl rfl rfl rfl ?_
      intro H11 h
      exact GL.jump (fun _ _ h => h) () h ⟨rfl, trivial⟩
    · replace h := And.right h hc5
      exact GC.jump (fun _ _ h => h) () h ⟨rfl, trivial⟩
  · intro x2 H3 h
    replace h := hR4 x2 H3 h
    refine GC.seq ?_
    refine GC.region ?_
    refine GL.val trivial rfl (OV.move (v := pv p_r) rfl) ?_
    obtain ⟨p12, hp13, h⟩ := h
    refine GL.val trivial rfl (OV.nilCheck (q := p_r) rfl hp13) ?_
    refine GL.val trivial rfl (OV.fieldAddr (p := p12) rfl rfl) ?_
    obtain ⟨x14, hr15, h⟩ := h
    refine GL.val trivial rfl (OV.load (p := (p12.1, p12.2 + 2)) rfl rfl hr15) ?_
    refine GL.val trivial rfl (OV.not rfl) ?_
    refine GL.val trivial rfl (OV.assign (v := .bool (!x14)) rfl) ?_
    refine GL.nil ?_
    exact GC.ret (fun _ _ hf hs => post_tmp1 rfl rfl hf hs ⟨(!x14), rfl, h⟩)

def sh_ref02_SameRow (C : Ctx) (p_a : Sl) (p_b : Sl) (K : Bool → Heap → Prop) (H : Heap) : Prop :=
  ift (((Sl.len p_a : Int) : Int) != (Sl.len p_b : Int))
 (K false H)
 (lp (α := Int) 0 H (fun x2 J3 H4 =>
 ift (decide ((x2 : Int) < (Sl.len p_a : Int)))
 (dr H4 fun Hs6 =>
 ixa p_a x2 fun p8 =>
 ldT Hs6 T_api_Value.c (p8.1, p8.2 + (x2 : Int).toNat * 4) fun x13 =>
 ixa p_b x2 fun p15 =>
 ldT Hs6 T_api_Value.c (p15.1, p15.2 + (x2 : Int).toNat * 4) fun x20 =>
 c_ref02_Same C x13 x20 (fun r23 H24 =>
 Heap.le Hs6 H24 ∧
 ift (!r23)
 (K false H24)
 (J3 (w .i64 (x2 + 1)) H24)) H4)
 (K true H4)))

theorem ad_ref02_SameRow (C : Ctx) (p_a : Sl) (p_b : Sl) (K : Bool → Heap → Prop) (H : Heap) (h : sh_ref02_SameRow C p_a p_b K H) : c_ref02_SameRow C p_a p_b K H := by
  refine Spec.enter Tryd.func66 rfl Tryd.ntmps66 rfl ?_
  refine GC.sub [(0, slv p_a), (1, slv p_b)] ⟨rfl, rfl, trivial⟩ ?_
  refine GC.seq ?_
  refine GC.region ?_
  refine GL.val trivial rfl (OV.assign (v := .bool false) rfl) ?_
  refine GL.nil ?_
  refine GC.seq ?_
  refine GC.seq ?_
  refine GC.region ?_
  refine GL.val trivial rfl (OV.move (v := slv p_a) rfl) ?_
  refine GL.val trivial rfl (OV.lenSl (s := p_a) rfl rfl) ?_
  refine GL.val trivial rfl (OV.move (v := slv p_b) rfl) ?_
  refine GL.val trivial rfl (OV.lenSl (s := p_b) rfl rfl) ?_
  refine GL.val trivial rfl (OV.ibin (v := .bool (((Sl.len p_a : Int) : Int) != (Sl.len p_b : Int))) rfl rfl rfl) ?_
  refine GL.nil ?_
  refine GC.cond (b := ((Sl.len p_a : Int) : Int) != (Sl.len p_b : Int)) rfl (fun hc1 => ?_) (fun hc1 => ?_)
  · replace h := And.left h hc1
    refine GC.seq ?_
    refine GC.region ?_
    refine GL.val trivial rfl (OV.assign (v := .bool false) rfl) ?_
    refine GL.nil ?_
    exact GC.ret (fun _ _ hf hs => post_tmp1 rfl rfl hf hs ⟨false, rfl, h⟩)
  · replace h := And.right h hc1
    refine GC.skip ?_
    refine GC.seq ?_
    refine GC.seq ?_
    refine GC.region ?_
    refine GL.val trivial rfl (OV.assign (v := .int .i64 0) rfl) ?_
    refine GL.nil ?_
    refine GC.block ?_
    refine GC.loop (α := Int) h (fun x2 => [(5, .int .i64 x2), (0, slv p_a), (1, slv p_b)]) ⟨rfl, rfl, rfl, trivial⟩ ?_
    intro x2 H4 J3 h
    refine GC.seq ?_
    refine GC.seq ?_
    refine GC.region ?_
    refine GL.val trivial rfl (OV.move (v := .int .i64 x2) rfl) ?_
    refine GL.val trivial rfl (OV.move (v := slv p_a) rfl) ?_
    refine GL.val trivial rfl (OV.lenSl (s := p_a) rfl rfl) ?_
    refine GL.val trivial rfl (OV.ibin (v := .bool (decide ((x2 : Int) < (Sl.len p_a : Int)))) rfl rfl rfl) ?_
    refine GL.nil ?_
    refine GC.cond (b := decide ((x2 : Int) < (Sl.len p_a : Int))) rfl (fun hc5 => ?_) (fun hc5 => ?_)
    · replace h := And.left h hc5
      refine GC.skip ?_
      refine GC.seq ?_
      refine GC.block ?_
      refine GC.seq ?_
      obtain ⟨Hs6, hle7, h⟩ := h
      refine GC.any (Hs := Hs6) (by kernel_rfl) hle7 ?_
      refine GA.take 0 rfl (by kernel_rfl) (by kernel_rfl) (by kernel_rfl) (fun _ _ _ h => False.elim h) trivial rfl (OV.move (v := slv p_a) rfl) ?_
      refine GA.take 1 rfl (by kernel_rfl) (by kernel_rfl) (by kernel_rfl) (fun _ _ _ h => False.elim h) trivial rfl (OV.move (v := .int .i64 x2) rfl) ?_
      obtain ⟨p8, ha9, hb10, hc11, hd12, h⟩ := h
      refine GA.take 2 rfl (by kernel_rfl) (by kernel_rfl) (by kernel_rfl) (fun _ _ _ h => False.elim h) trivial rfl (OV.indexAddr (s := p_a) rfl rfl rfl rfl ha9 hb10 hc11 hd12) ?_
      obtain ⟨x13, hr14, h⟩ := h
      refine GA.take 3 rfl (by kernel_rfl) (by kernel_rfl) (by kernel_rfl) (fun _ _ _ h => False.elim h) trivial rfl (OV.loadT (p := (p8.1, p8.2 + (x2 : Int).toNat * 4)) (cs := T_api_Value.c x13) rfl rfl rfl hr14) ?_
      refine GA.take 4 rfl (by kernel_rfl) (by kernel_rfl) (by kernel_rfl) (fun _ _ _ h => False.elim h) trivial rfl (OV.move (v := slv p_b) rfl) ?_
      refine GA.take 5 rfl (by kernel_rfl) (by kernel_rfl) (by kernel_rfl) (fun _ _ _ h => False.elim h) trivial rfl (OV.move (v := .int .i64 x2) rfl) ?_
      obtain ⟨p15, ha16, hb17, hc18, hd19, h⟩ := h
      refine GA.take 6 rfl (by kernel_rfl) (by kernel_rfl) (by kernel_rfl) (fun _ _ _ h => False.elim h) trivial rfl (OV.indexAddr (s := p_b) rfl rfl rfl rfl ha16 hb17 hc18 hd19) ?_
      obtain ⟨x20, hr21, h⟩ := h
      refine GA.take 7 rfl (by kernel_rfl) (by kernel_rfl) (by kernel_rfl) (fun _ _ _ h => False.elim h) trivial rfl (OV.loadT (p := (p15.1, p15.2 + (x2 : Int).toNat * 4)) (cs := T_api_Value.c x20) rfl rfl rfl hr21) ?_
      refine GA.eff 8 rfl (by kernel_rfl) ?_
      refine GL.call h trivial rfl ok_ref02_Same (vs := [.agg (T_api_Value.c x13).toArray, .agg (T_api_Value.c x20).toArray]) rfl ?_
      rintro _ H24 ⟨r23, rfl, h⟩
      obtain ⟨hle22, h⟩ := h
      refine GA.back hle22 ?_
      refine GA.take 9 rfl (by kernel_rfl) (by kernel_rfl) (by kernel_rfl) (fun _ _ _ h => False.elim h) trivial rfl (OV.not rfl) ?_
      refine GA.done (by kernel_rfl) ?_
      refine GL.nil ?_
      refine GC.cond (b := !r23) rfl (fun hc25 => ?_) (fun hc25 => ?_)
      · replace h := And.left h hc25
        refine GC.seq ?_
        refine GC.region ?_
        refine GL.val trivial rfl (OV.assign (v := .bool false) rfl) ?_
        refine GL.nil ?_
        exact GC.ret (fun _ _ hf hs => post_tmp1 rfl rfl hf hs ⟨false, rfl, h⟩)
      · replace h := And.right h hc25
        refine GC.skip_to (fun _ _ h => h) ?_
        refine GC.region ?_
        refine GL.val trivial rfl (OV.move (v := .int .i64 x2) rfl) ?_
        refine GL.val trivial rfl (OV.ibin (v := .int .i64 (w .i64 (x2 + 1))) rfl rfl rfl) ?_
        refine GL.val trivial rfl (OV.assign (v := .int .i64 (w .i64 (x2 + 1))) rfl) ?_
        exact GL.jump (fun _ _ h => h) (w .i64 (x2 + 1)) h ⟨rfl, rfl, rfl, trivial⟩
    · replace h := And.right h hc5
      refine GC.exit_to (fun _ _ h => h) ?_
      refine GC.seq ?_
      refine GC.region ?_
      refine GL.val trivial rfl (OV.assign (v := .bool true) rfl) ?_
      refine GL.nil ?_
      exact GC.ret (fun _ _ hf hs => post_tmp1 rfl rfl hf hs ⟨true, rfl, h⟩)

def sh_code_Reader_value (C : Ctx) (p_r : Option (Nat × Nat)) (p_deep : Int) (K : T_api_Value → Heap → Prop) (H : Heap) : Prop :=
  nw (T_api_Value.c T_api_Value.zero) (fun b1 H2 =>
 nw ((List.replicate 7 (.nilFunc : Value))) (fun b3 H4 =>
 stC 7 (b3, 0) [.nilFunc, .func (.func 85) (List.toArray []) (List.toArray []), .func (.func 86) (List.toArray []) (List.toArray []), .func (.func 87) (List.toArray []) (List.toArray []), .func (.func 88) (List.toArray []) (List.toArray []), .func (.func 89) (List.toArray []) (List.toArray []), .func (.func 90) (List.toArray []) (List.toArray [])] (fun H5 =>
 c_code_Reader_next C p_r (fun r8 H9 =>
 nw (T_api_Value.c T_api_Value.zero) (fun b10 H11 =>
 stT (b10, 0) (T_api_Value.c (⟨r8, 0, [], Sl.nil⟩ : T_api_Value)) (fun H12 =>
 jn (α := Unit) (fun x14 H15 =>
 ldT H15 T_api_Value.c (b10, 0) fun x41 =>
 stT (b1, 0) (T_api_Value.c x41) (fun H43 =>
 ldT H43 T_api_Value.c (b1, 0) fun x44 =>
 K x44 H43) H15)
 (fun J13 => jn (α := Bool) (fun b17 H23 =>
 jn (α := Bool) (fun b24 H30 =>
 c_code_Reader_ask C p_r b24 (fun r31 H32 =>
 ift r31
 (ldI H32 .u8 ((b10, 0).1, (b10, 0).2 + 0) fun x34 =>
 ixr (b3, 0) 7 x34 <|
 ldV H32 ((b3, 0).1, (b3, 0).2 + (x34 : Int).toNat * 1) fun x38 =>
 callU Tryd.prog C x38 [pv p_r, pv (some (b10, 0)), .int .i64 p_deep] H32 (fun v H40 => v = .tuple #[] ∧
 J13 () H40))
 (J13 () H32)) H30)
 (fun J25 => ift b17
 (ldI H23 .u8 ((b10, 0).1, (b10, 0).2 + 0) fun x28 =>
 J25 (decide ((x28 : Int) ≤ 6)) H23)
 (J25 false H23)))
 (fun J18 => ift (decide ((p_deep : Int) ≤ 64))
 (ldI H12 .u8 ((b10, 0).1, (b10, 0).2 + 0) fun x21 =>
 J18 (decide ((x21 : Int) ≥ 1)) H12)
 (J18 false H12)))) H11) H9) H5) H4) H2) H

theorem ad_code_Reader_value (C : Ctx) (p_r : Option (Nat × Nat)) (p_deep : Int) (K : T_api_Value → Heap → Prop) (H : Heap) (h : sh_code_Reader_value C p_r p_deep K H) : c_code_Reader_value C p_r p_deep K H := by
  refine Spec.enter Tryd.func67 rfl Tryd.ntmps67 rfl ?_
  refine GC.sub [(0, pv p_r), (1, .int .i64 p_deep)] ⟨rfl, rfl, trivial⟩ ?_
  refine GC.seq ?_
  refine GC.region ?_
  refine GL.alloc (cs := T_api_Value.c T_api_Value.zero) h trivial rfl rfl rfl ?_
  intro b1 H2 h
  refine GL.nil ?_
  refine GC.seq ?_
  refine GC.region ?_
  refine GL.val trivial rfl (OV.build (vs := [(1, .func (.func 85) (List.toArray []) (List.toArray [])), (2, .func (.func 86) (List.toArray []) (List.toArray [])), (3, .func (.func 87) (List.toArray []) (List.toArray [])), (4, .func (.func 88) (List.toArray []) (List.toArray [])), (5, .func (.func 89) (List.toArray []) (List.toArray [])), (6, .func (.func 90) (List.toArray []) (List.toArray []))]) (v := .agg (List.toArray [.nilFunc, .func (.func 85) (List.toArray []) (List.toArray []), .func (.func 86) (List.toArray []) (List.toArray []), .func (.func 87) (List.toArray []) (List.toArray []), .func (.func 88) (List.toArray []) (List.toArray []), .func (.func 89) (List.toArray []) (List.toArray []), .func (.func 90) (List.toArray []) (List.toArray [])])) rfl (fun _ => by kernel_rfl)) ?_
  refine GL.alloc (cs := (List.replicate 7 (.nilFunc : Value))) h trivial rfl rfl rfl ?_
  intro b3 H4 h
  obtain ⟨hl6, h17, h⟩ := h
  refine GL.storeT (p := (b3, 0)) (vs := [.nilFunc, .func (.func 85) (List.toArray []) (List.toArray []), .func (.func 86) (List.toArray []) (List.toArray []), .func (.func 87) (List.toArray []) (List.toArray []), .func (.func 88) (List.toArray []) (List.toArray []), .func (.func 89) (List.toArray []) (List.toArray []), .func (.func 90) (List.toArray []) (List.toArray [])]) h trivial rfl rfl h17 (by rw [hl6]; rfl) ?_
  intro H5 h
  refine GL.nil ?_
  refine GC.seq ?_
  refine GC.region ?_
  refine GL.val trivial rfl (OV.move (v := pv p_r) rfl) ?_
  refine GL.call h trivial rfl ok_code_Reader_next (vs := [pv p_r]) rfl ?_
  rintro _ H9 ⟨r8, rfl, h⟩
  refine GL.val trivial rfl (OV.build (vs := [(0, .int .u8 r8)]) (v := .agg (T_api_Value.c (⟨r8, 0, [], Sl.nil⟩ : T_api_Value)).toArray) rfl (fun _ => by kernel_rfl)) ?_
  refine GL.alloc (cs := T_api_Value.c T_api_Value.zero) h trivial rfl rfl rfl ?_
  intro b10 H11 h
  refine GL.storeT (p := (b10, 0)) (vs := T_api_Value.c (⟨r8, 0, [], Sl.nil⟩ : T_api_Value)) h trivial rfl rfl rfl rfl ?_
  intro H12 h
  refine GL.nil ?_
  obtain ⟨J13, h, hR16⟩ := h
  refine GC.join (α := Unit) J13 (fun _ => [(4, pv (some (b1, 0))), (6, pv (some (b10, 0)))]) ?_ ?_
  · skip
    refine GC.seq ?_
    refine GC.region ?_
    refine GL.val trivial rfl (OV.move (v := pv p_r) rfl) ?_
    refine GL.val trivial rfl (OV.move (v := .int .i64 p_deep) rfl) ?_
    refine GL.val trivial rfl (OV.ibin (v := .bool (decide ((p_deep : Int) ≤ 64))) rfl rfl rfl) ?_
    refine GL.val trivial rfl (OV.move (v := .bool (decide ((p_deep : Int) ≤ 64))) rfl) ?_
    obtain ⟨J18, h, hR19⟩ := h
    refine GL.cut (α := Bool) 4 J18 (fun b17 => [(18, .bool b17), (0, pv p_r), (1, .int .i64 p_deep), (4, pv (some (b1, 0))), (5, pv (some (b3, 0))), (6, pv (some (b10, 0))), (11, pv p_r)]) ?_ ?_
    · rcases Bool.eq_false_or_eq_true (decide ((p_deep : Int) ≤ 64)) with hc20 | hc20
      · skip
        replace h := And.left h hc20
        refine GL.val ⟨_, _, rfl, rfl, hc20⟩ rfl (OV.fieldAddr (p := (b10, 0)) rfl rfl) ?_
        obtain ⟨x21, hr22, h⟩ := h
        refine GL.val ⟨_, _, rfl, rfl, hc20⟩ rfl (OV.load (p := ((b10, 0).1, (b10, 0).2 + 0)) rfl rfl hr22) ?_
        refine GL.val ⟨_, _, rfl, rfl, hc20⟩ rfl (OV.ibin (v := .bool (decide ((x21 : Int) ≥ 1))) rfl rfl rfl) ?_
        refine GL.val trivial rfl (OV.pickT (b := decide ((p_deep : Int) ≤ 64)) (v := .bool (decide ((x21 : Int) ≥ 1))) rfl hc20 rfl) ?_
        exact GL.jump (fun _ _ h => h) (decide ((x21 : Int) ≥ 1)) h ⟨rfl, rfl, rfl, rfl, rfl, rfl, rfl, trivial⟩
      · skip
        replace h := And.right h hc20
        refine GL.skip ⟨_, rfl, .inl ⟨_, rfl, hc20⟩⟩ rfl ?_
        refine GL.skip ⟨_, rfl, .inl ⟨_, rfl, hc20⟩⟩ rfl ?_
        refine GL.skip ⟨_, rfl, .inl ⟨_, rfl, hc20⟩⟩ rfl ?_
        refine GL.val trivial rfl (OV.pickF (b := decide ((p_deep : Int) ≤ 64)) (v := .bool false) rfl hc20 rfl) ?_
        exact GL.jump (fun _ _ h => h) false h ⟨rfl, rfl, rfl, rfl, rfl, rfl, rfl, trivial⟩
    intro b17 H23 h
    replace h := hR19 b17 H23 h
    refine GL.val trivial rfl (OV.move (v := .bool b17) rfl) ?_
    obtain ⟨J25, h, hR26⟩ := h
    refine GL.cut (α := Bool) 4 J25 (fun b24 => [(23, .bool b24), (0, pv p_r), (1, .int .i64 p_deep), (4, pv (some (b1, 0))), (5, pv (some (b3, 0))), (6, pv (some (b10, 0))), (11, pv p_r)]) ?_ ?_
    · rcases Bool.eq_false_or_eq_true b17 with hc27 | hc27
      · skip
        replace h := And.left h hc27
        refine GL.val ⟨_, _, rfl, rfl, hc27⟩ rfl (OV.fieldAddr (p := (b10, 0)) rfl rfl) ?_
        obtain ⟨x28, hr29, h⟩ := h
        refine GL.val ⟨_, _, rfl, rfl, hc27⟩ rfl (OV.load (p := ((b10, 0).1, (b10, 0).2 + 0)) rfl rfl hr29) ?_
        refine GL.val ⟨_, _, rfl, rfl, hc27⟩ rfl (OV.ibin (v := .bool (decide ((x28 : Int) ≤ 6))) rfl rfl rfl) ?_
        refine GL.val trivial rfl (OV.pickT (b := b17) (v := .bool (decide ((x28 : Int) ≤ 6))) rfl hc27 rfl) ?_
        exact GL.jump (fun _ _ h => h) (decide ((x28 : Int) ≤ 6)) h ⟨rfl, rfl, rfl, rfl, rfl, rfl, rfl, trivial⟩
      · skip
        replace h := And.right h hc27
        refine GL.skip ⟨_, rfl, .inl ⟨_, rfl, hc27⟩⟩ rfl ?_
        refine GL.skip ⟨_, rfl, .inl ⟨_, rfl, hc27⟩⟩ rfl ?_
        refine GL.skip ⟨_, rfl, .inl ⟨_, rfl, hc27⟩⟩ rfl ?_
        refine GL.val trivial rfl (OV.pickF (b := b17) (v := .bool false) rfl hc27 rfl) ?_
        exact GL.jump (fun _ _ h => h) false h ⟨rfl, rfl, rfl, rfl, rfl, rfl, rfl, trivial⟩
    intro b24 H30 h
    replace h := hR26 b24 H30 h
    refine GL.call h trivial rfl ok_code_Reader_ask (vs := [pv p_r, .bool b24]) rfl ?_
    rintro _ H32 ⟨r31, rfl, h⟩
    refine GL.nil ?_
    refine GC.cond (b := r31) rfl (fun hc33 => ?_) (fun hc33 => ?_)
    · replace h := And.left h hc33
      refine GC.region ?_
      refine GL.val trivial rfl (OV.fieldAddr (p := (b10, 0)) rfl rfl) ?_
      obtain ⟨x34, hr35, h⟩ := h
      refine GL.val trivial rfl (OV.load (p := ((b10, 0).1, (b10, 0).2 + 0)) rfl rfl hr35) ?_
      obtain ⟨ha36, hb37, h⟩ := h
      refine GL.val trivial rfl (OV.indexAddrA (p := (b3, 0)) rfl rfl rfl rfl ha36 hb37) ?_
      obtain ⟨x38, hr39, h⟩ := h
      refine GL.val trivial rfl (OV.load (p := ((b3, 0).1, (b3, 0).2 + (x34 : Int).toNat * 1)) rfl rfl hr39) ?_
      refine GL.val trivial rfl (OV.move (v := pv p_r) rfl) ?_
      refine GL.val trivial rfl (OV.move (v := .int .i64 p_deep) rfl) ?_
      refine GL.callU (xv := x38) (vs := [pv p_r, pv (some (b10, 0)), .int .i64 p_deep]) h trivial rfl rfl rfl ?_
      rintro _ H40 ⟨rfl, h⟩
      exact GL.jump (fun _ _ h => h) () h ⟨rfl, rfl, trivial⟩
    · replace h := And.right h hc33
      exact GC.jump (fun _ _ h => h) () h ⟨rfl, rfl, trivial⟩
  · intro x14 H15 h
    replace h := hR16 x14 H15 h
    refine GC.seq ?_
    refine GC.region ?_
    obtain ⟨x41, hr42, h⟩ := h
    refine GL.val trivial rfl (OV.loadT (p := (b10, 0)) (cs := T_api_Value.c x41) rfl rfl rfl hr42) ?_
    refine GL.storeT (p := (b1, 0)) (vs := T_api_Value.c x41) h trivial rfl rfl rfl rfl ?_
    intro H43 h
    refine GL.nil ?_
    obtain ⟨x44, hr45, h⟩ := h
    exact GC.ret (fun _ _ hf hs => post_res1 rfl (RV.cellT (p := (b1, 0)) (cs := T_api_Value.c x44) rfl rfl rfl hr45) hf hs ⟨x44, rfl, h⟩)

def sh_code_pen_flip (C : Ctx) (p_p : Option (Nat × Nat)) (p_is : Bool) (K : Heap → Prop) (H : Heap) : Prop :=
  ift p_is
 (nck p_p fun p2 =>
 ldI H .u8 (p2.1, p2.2 + 1) fun x4 =>
 nck p_p fun p6 =>
 st (p6.1, p6.2 + 1) (.int .u8 (bXor .u8 x4 255)) (fun H8 =>
 K H8) H)
 (K H)

theorem ad_code_pen_flip (C : Ctx) (p_p : Option (Nat × Nat)) (p_is : Bool) (K : Heap → Prop) (H : Heap) (h : sh_code_pen_flip C p_p p_is K H) : c_code_pen_flip C p_p p_is K H := by
  refine Spec.enter Tryd.func68 rfl Tryd.ntmps68 rfl ?_
  refine GC.sub [(0, pv p_p), (1, .bool p_is)] ⟨rfl, rfl, trivial⟩ ?_
  refine GC.seq ?_
  refine GC.region ?_
  refine GL.val trivial rfl (OV.move (v := .bool p_is) rfl) ?_
  refine GL.nil ?_
  refine GC.cond (b := p_is) rfl (fun hc1 => ?_) (fun hc1 => ?_)
  · replace h := And.left h hc1
    refine GC.region ?_
    refine GL.val trivial rfl (OV.move (v := pv p_p) rfl) ?_
    obtain ⟨p2, hp3, h⟩ := h
    refine GL.val trivial rfl (OV.nilCheck (q := p_p) rfl hp3) ?_
    refine GL.val trivial rfl (OV.fieldAddr (p := p2) rfl rfl) ?_
    obtain ⟨x4, hr5, h⟩ := h
    refine GL.val trivial rfl (OV.load (p := (p2.1, p2.2 + 1)) rfl rfl hr5) ?_
    refine GL.val trivial rfl (OV.ibin (v := .int .u8 (bXor .u8 x4 255)) rfl rfl rfl) ?_
    obtain ⟨p6, hp7, h⟩ := h
    refine GL.val trivial rfl (OV.nilCheck (q := p_p) rfl hp7) ?_
    refine GL.val trivial rfl (OV.fieldAddr (p := p6) rfl rfl) ?_
    refine GL.store (p := (p6.1, p6.2 + 1)) (v := .int .u8 (bXor .u8 x4 255)) h trivial rfl rfl rfl rfl ?_
    intro H8 h
    exact GL.ends (fun _ _ hf hs => post_tmp0 rfl hf hs ⟨rfl, h⟩)
  · replace h := And.right h hc1
    exact GC.ends (fun _ _ hf hs => post_tmp0 rfl hf hs ⟨rfl, h⟩)

def sh_math_bits_Len64 (C : Ctx) (p_x : Int) (K : Int → Heap → Prop) (H : Heap) : Prop :=
  jn (α := Int × Int) (fun x2 H3 =>
 jn (α := Int × Int) (fun x7 H8 =>
 jn (α := Int × Int) (fun x12 H13 =>
 ixs [0, 1, 2, 2, 3, 3, 3, 3, 4, 4, 4, 4, 4, 4, 4, 4, 5, 5, 5, 5, 5, 5, 5, 5, 5, 5, 5, 5, 5, 5, 5, 5, 6, 6, 6, 6, 6, 6, 6, 6, 6, 6, 6, 6, 6, 6, 6, 6, 6, 6, 6, 6, 6, 6, 6, 6, 6, 6, 6, 6, 6, 6, 6, 6, 7, 7, 7, 7, 7, 7, 7, 7, 7, 7, 7, 7, 7, 7, 7, 7, 7, 7, 7, 7, 7, 7, 7, 7, 7, 7, 7, 7, 7, 7, 7, 7, 7, 7, 7, 7, 7, 7, 7, 7, 7, 7, 7, 7, 7, 7, 7, 7, 7, 7, 7, 7, 7, 7, 7, 7, 7, 7, 7, 7, 7, 7, 7, 7, 8, 8, 8, 8, 8, 8, 8, 8, 8, 8, 8, 8, 8, 8, 8, 8, 8, 8, 8, 8, 8, 8, 8, 8, 8, 8, 8, 8, 8, 8, 8, 8, 8, 8, 8, 8, 8, 8, 8, 8, 8, 8, 8, 8, 8, 8, 8, 8, 8, 8, 8, 8, 8, 8, 8, 8, 8, 8, 8, 8, 8, 8, 8, 8, 8, 8, 8, 8, 8, 8, 8, 8, 8, 8, 8, 8, 8, 8, 8, 8, 8, 8, 8, 8, 8, 8, 8, 8, 8, 8, 8, 8, 8, 8, 8, 8, 8, 8, 8, 8, 8, 8, 8, 8, 8, 8, 8, 8, 8, 8, 8, 8, 8, 8, 8, 8, 8, 8, 8, 8, 8, 8, 8, 8, 8, 8, 8, 8] (w .u8 x12.1) fun c16 =>
 K (w .i64 (x12.2 + (w .i64 (c16.toNat : Int)))) H13)
 (fun J11 => ift (decide ((x7.1 : Int) ≥ 256))
 (J11 ((sShr .u64 x7.1 8), (w .i64 (x7.2 + 8))) H8)
 (J11 (x7.1, x7.2) H8)))
 (fun J6 => ift (decide ((x2.1 : Int) ≥ 65536))
 (J6 ((sShr .u64 x2.1 16), (w .i64 (x2.2 + 16))) H3)
 (J6 (x2.1, x2.2) H3)))
 (fun J1 => ift (decide ((p_x : Int) ≥ 4294967296))
 (J1 ((sShr .u64 p_x 32), 32) H)
 (J1 (p_x, 0) H))

theorem ad_math_bits_Len64 (C : Ctx) (p_x : Int) (K : Int → Heap → Prop) (H : Heap) (h : sh_math_bits_Len64 C p_x K H) : c_math_bits_Len64 C p_x K H := by
  refine Spec.enter Tryd.func69 rfl Tryd.ntmps69 rfl ?_
  refine GC.sub [(0, .int .u64 p_x)] ⟨rfl, trivial⟩ ?_
  refine GC.seq ?_
  refine GC.region ?_
  refine GL.val trivial rfl (OV.assign (v := .int .i64 0) rfl) ?_
  refine GL.nil ?_
  obtain ⟨J1, h, hR4⟩ := h
  refine GC.join (α := Int × Int) J1 (fun x2 => [(0, .int .u64 x2.1), (2, .int .i64 x2.2)]) ?_ ?_
  · skip
    refine GC.seq ?_
    refine GC.region ?_
    refine GL.val trivial rfl (OV.move (v := .int .u64 p_x) rfl) ?_
    refine GL.val trivial rfl (OV.ibin (v := .bool (decide ((p_x : Int) ≥ 4294967296))) rfl rfl rfl) ?_
    refine GL.nil ?_
    refine GC.cond (b := decide ((p_x : Int) ≥ 4294967296)) rfl (fun hc5 => ?_) (fun hc5 => ?_)
    · replace h := And.left h hc5
      refine GC.seq ?_
      refine GC.region ?_
      refine GL.val trivial rfl (OV.move (v := .int .u64 p_x) rfl) ?_
      refine GL.val trivial rfl (OV.shr rfl rfl (by decide)) ?_
      refine GL.val trivial rfl (OV.assign (v := .int .u64 (sShr .u64 p_x 32)) rfl) ?_
      refine GL.nil ?_
      refine GC.region ?_
      refine GL.val trivial rfl (OV.assign (v := .int .i64 32) rfl) ?_
      exact GL.jump (fun _ _ h => h) ((sShr .u64 p_x 32), 32) h ⟨rfl, rfl, trivial⟩
    · replace h := And.right h hc5
      exact GC.jump (fun _ _ h => h) (p_x, 0) h ⟨rfl, rfl, trivial⟩
  · intro x2 H3 h
    replace h := hR4 x2 H3 h
    obtain ⟨J6, h, hR9⟩ := h
    refine GC.join (α := Int × Int) J6 (fun x7 => [(0, .int .u64 x7.1), (2, .int .i64 x7.2)]) ?_ ?_
    · skip
      refine GC.seq ?_
      refine GC.region ?_
      refine GL.val trivial rfl (OV.move (v := .int .u64 x2.1) rfl) ?_
      refine GL.val trivial rfl (OV.ibin (v := .bool (decide ((x2.1 : Int) ≥ 65536))) rfl rfl rfl) ?_
      refine GL.nil ?_
      refine GC.cond (b := decide ((x2.1 : Int) ≥ 65536)) rfl (fun hc10 => ?_) (fun hc10 => ?_)
      · replace h := And.left h hc10
        refine GC.seq ?_
        refine GC.region ?_
        refine GL.val trivial rfl (OV.move (v := .int .u64 x2.1) rfl) ?_
        refine GL.val trivial rfl (OV.shr rfl rfl (by decide)) ?_
        refine GL.val trivial rfl (OV.assign (v := .int .u64 (sShr .u64 x2.1 16)) rfl) ?_
        refine GL.nil ?_
        refine GC.region ?_
        refine GL.val trivial rfl (OV.move (v := .int .i64 x2.2) rfl) ?_
        refine GL.val trivial rfl (OV.ibin (v := .int .i64 (w .i64 (x2.2 + 16))) rfl rfl rfl) ?_
        refine GL.val trivial rfl (OV.assign (v := .int .i64 (w .i64 (x2.2 + 16))) rfl) ?_
        exact GL.jump (fun _ _ h => h) ((sShr .u64 x2.1 16), (w .i64 (x2.2 + 16))) h ⟨rfl, rfl, trivial⟩
      · replace h := And.right h hc10
        exact GC.jump (fun _ _ h => h) (x2.1, x2.2) h ⟨rfl, rfl, trivial⟩
    · intro x7 H8 h
      replace h := hR9 x7 H8 h
      obtain ⟨J11, h, hR14⟩ := h
      refine GC.join (α := Int × Int) J11 (fun x12 => [(0, .int .u64 x12.1), (2, .int .i64 x12.2)]) ?_ ?_
      · skip
        refine GC.seq ?_
        refine GC.region ?_
        refine GL.val trivial rfl (OV.move (v := .int .u64 x7.1) rfl) ?_
        refine GL.val trivial rfl (OV.ibin (v := .bool (decide ((x7.1 : Int) ≥ 256))) rfl rfl rfl) ?_
        refine GL.nil ?_
        refine GC.cond (b := decide ((x7.1 : Int) ≥ 256)) rfl (fun hc15 => ?_) (fun hc15 => ?_)
        · replace h := And.left h hc15
          refine GC.seq ?_
          refine GC.region ?_
          refine GL.val trivial rfl (OV.move (v := .int .u64 x7.1) rfl) ?_
          refine GL.val trivial rfl (OV.shr rfl rfl (by decide)) ?_
          refine GL.val trivial rfl (OV.assign (v := .int .u64 (sShr .u64 x7.1 8)) rfl) ?_
          refine GL.nil ?_
          refine GC.region ?_
          refine GL.val trivial rfl (OV.move (v := .int .i64 x7.2) rfl) ?_
          refine GL.val trivial rfl (OV.ibin (v := .int .i64 (w .i64 (x7.2 + 8))) rfl rfl rfl) ?_
          refine GL.val trivial rfl (OV.assign (v := .int .i64 (w .i64 (x7.2 + 8))) rfl) ?_
          exact GL.jump (fun _ _ h => h) ((sShr .u64 x7.1 8), (w .i64 (x7.2 + 8))) h ⟨rfl, rfl, trivial⟩
        · replace h := And.right h hc15
          exact GC.jump (fun _ _ h => h) (x7.1, x7.2) h ⟨rfl, rfl, trivial⟩
      · intro x12 H13 h
        replace h := hR14 x12 H13 h
        refine GC.seq ?_
        refine GC.region ?_
        refine GL.val trivial rfl (OV.move (v := .int .i64 x12.2) rfl) ?_
        refine GL.val trivial rfl (OV.move (v := .int .u64 x12.1) rfl) ?_
        refine GL.val trivial rfl (OV.convInt rfl rfl rfl) ?_
        obtain ⟨c16, ha17, hb18, h⟩ := h
        refine GL.val trivial rfl (OV.indexStr (s := [0, 1, 2, 2, 3, 3, 3, 3, 4, 4, 4, 4, 4, 4, 4, 4, 5, 5, 5, 5, 5, 5, 5, 5, 5, 5, 5, 5, 5, 5, 5, 5, 6, 6, 6, 6, 6, 6, 6, 6, 6, 6, 6, 6, 6, 6, 6, 6, 6, 6, 6, 6, 6, 6, 6, 6, 6, 6, 6, 6, 6, 6, 6, 6, 7, 7, 7, 7, 7, 7, 7, 7, 7, 7, 7, 7, 7, 7, 7, 7, 7, 7, 7, 7, 7, 7, 7, 7, 7, 7, 7, 7, 7, 7, 7, 7, 7, 7, 7, 7, 7, 7, 7, 7, 7, 7, 7, 7, 7, 7, 7, 7, 7, 7, 7, 7, 7, 7, 7, 7, 7, 7, 7, 7, 7, 7, 7, 7, 8, 8, 8, 8, 8, 8, 8, 8, 8, 8, 8, 8, 8, 8, 8, 8, 8, 8, 8, 8, 8, 8, 8, 8, 8, 8, 8, 8, 8, 8, 8, 8, 8, 8, 8, 8, 8, 8, 8, 8, 8, 8, 8, 8, 8, 8, 8, 8, 8, 8, 8, 8, 8, 8, 8, 8, 8, 8, 8, 8, 8, 8, 8, 8, 8, 8, 8, 8, 8, 8, 8, 8, 8, 8, 8, 8, 8, 8, 8, 8, 8, 8, 8, 8, 8, 8, 8, 8, 8, 8, 8, 8, 8, 8, 8, 8, 8, 8, 8, 8, 8, 8, 8, 8, 8, 8, 8, 8, 8, 8, 8, 8, 8, 8, 8, 8, 8, 8, 8, 8, 8, 8, 8, 8, 8, 8, 8, 8]) rfl rfl rfl ha17 hb18) ?_
        refine GL.val trivial rfl (OV.convInt rfl rfl rfl) ?_
        refine GL.val trivial rfl (OV.ibin (v := .int .i64 (w .i64 (x12.2 + (w .i64 (c16.toNat : Int))))) rfl rfl rfl) ?_
        refine GL.val trivial rfl (OV.assign (v := .int .i64 (w .i64 (x12.2 + (w .i64 (c16.toNat : Int))))) rfl) ?_
        refine GL.nil ?_
        exact GC.ret (fun _ _ hf hs => post_tmp1 rfl rfl hf hs ⟨(w .i64 (x12.2 + (w .i64 (c16.toNat : Int)))), rfl, h⟩)

def sh_value_depth (C : Ctx) (p_v : T_api_Value) (p_most : Int) (K : Int → Heap → Prop) (H : Heap) : Prop :=
  nw (T_api_Value.c p_v) (fun b1 H2 =>
 jn (α := Int) (fun x4 H5 =>
 K (w .i64 (x4 + 1)) H5)
 (fun J3 => ldL H2 ((b1, 0).1, (b1, 0).2 + 3) fun x7 =>
 lp (α := Int × Int) (0, 0) H2 (fun x9 J10 H11 =>
 ift (decide ((x9.2 : Int) < (Sl.len x7 : Int)))
 (ixa x7 x9.2 fun p13 =>
 ldT H11 T_api_Value.c (p13.1, p13.2 + (x9.2 : Int).toNat * 4) fun x18 =>
 nw (T_api_Value.c T_api_Value.zero) (fun b20 H21 =>
 stT (b20, 0) (T_api_Value.c x18) (fun H22 =>
 ift (decide ((x9.1 : Int) ≥ p_most))
 (J3 x9.1 H22)
 (ldT H22 T_api_Value.c (b20, 0) fun x24 =>
 c_value_depth C x24 (w .i64 (p_most - 1)) (fun r26 H27 =>
 J10 ((if r26 > x9.1 then r26 else x9.1 : Int), (w .i64 (x9.2 + 1))) H27) H22)) H21) H11)
 (J3 x9.1 H11)))) H

theorem ad_value_depth (C : Ctx) (p_v : T_api_Value) (p_most : Int) (K : Int → Heap → Prop) (H : Heap) (h : sh_value_depth C p_v p_most K H) : c_value_depth C p_v p_most K H := by
  refine Spec.enter Tryd.func70 rfl Tryd.ntmps70 rfl ?_
  refine GC.sub [(0, .agg (T_api_Value.c p_v).toArray), (1, .int .i64 p_most)] ⟨rfl, rfl, trivial⟩ ?_
  refine GC.seq ?_
  refine GC.region ?_
  refine GL.box (v := .agg (T_api_Value.c p_v).toArray) (cs := T_api_Value.c p_v) h trivial rfl rfl rfl ?_
  intro b1 H2 h
  refine GL.val trivial rfl (OV.assign (v := .int .i64 0) rfl) ?_
  refine GL.nil ?_
  refine GC.seq ?_
  refine GC.region ?_
  refine GL.val trivial rfl (OV.assign (v := .int .i64 0) rfl) ?_
  refine GL.nil ?_
  obtain ⟨J3, h, hR6⟩ := h
  refine GC.join (α := Int) J3 (fun x4 => [(5, .int .i64 x4)]) ?_ ?_
  · skip
    refine GC.seq ?_
    refine GC.region ?_
    refine GL.val trivial rfl (OV.fieldAddr (p := (b1, 0)) rfl rfl) ?_
    obtain ⟨x7, hr8, h⟩ := h
    refine GL.val trivial rfl (OV.load (p := ((b1, 0).1, (b1, 0).2 + 3)) rfl rfl hr8) ?_
    refine GL.val trivial rfl (OV.lenSl (s := x7) rfl rfl) ?_
    refine GL.val trivial rfl (OV.move (v := .int .i64 0) rfl) ?_
    refine GL.nil ?_
    refine GC.block ?_
    refine GC.loop (α := Int × Int) h (fun x9 => [(5, .int .i64 x9.1), (11, .int .i64 x9.2), (1, .int .i64 p_most), (9, slv x7), (10, .int .i64 (Sl.len x7 : Int))]) ⟨rfl, rfl, rfl, rfl, rfl, trivial⟩ ?_
    intro x9 H11 J10 h
    refine GC.seq ?_
    refine GC.region ?_
    refine GL.val trivial rfl (OV.ibin (v := .bool (decide ((x9.2 : Int) < (Sl.len x7 : Int)))) rfl rfl rfl) ?_
    refine GL.nil ?_
    refine GC.seq ?_
    refine GC.cond (b := decide ((x9.2 : Int) < (Sl.len x7 : Int))) rfl (fun hc12 => ?_) (fun hc12 => ?_)
    · replace h := And.left h hc12
      refine GC.skip ?_
      refine GC.seq ?_
      refine GC.block ?_
      refine GC.seq ?_
      refine GC.region ?_
      obtain ⟨p13, ha14, hb15, hc16, hd17, h⟩ := h
      refine GL.val trivial rfl (OV.indexAddr (s := x7) rfl rfl rfl rfl ha14 hb15 hc16 hd17) ?_
      obtain ⟨x18, hr19, h⟩ := h
      refine GL.val trivial rfl (OV.loadT (p := (p13.1, p13.2 + (x9.2 : Int).toNat * 4)) (cs := T_api_Value.c x18) rfl rfl rfl hr19) ?_
      refine GL.alloc (cs := T_api_Value.c T_api_Value.zero) h trivial rfl rfl rfl ?_
      intro b20 H21 h
      refine GL.storeT (p := (b20, 0)) (vs := T_api_Value.c x18) h trivial rfl rfl rfl rfl ?_
      intro H22 h
      refine GL.nil ?_
      refine GC.seq ?_
      refine GC.seq ?_
      refine GC.region ?_
      refine GL.val trivial rfl (OV.move (v := .int .i64 x9.1) rfl) ?_
      refine GL.val trivial rfl (OV.move (v := .int .i64 p_most) rfl) ?_
      refine GL.val trivial rfl (OV.ibin (v := .bool (decide ((x9.1 : Int) ≥ p_most))) rfl rfl rfl) ?_
      refine GL.nil ?_
      refine GC.cond (b := decide ((x9.1 : Int) ≥ p_most)) rfl (fun hc23 => ?_) (fun hc23 => ?_)
      · replace h := And.left h hc23
        exact GC.exit_jump (fun _ _ h => h) x9.1 h ⟨rfl, trivial⟩
      · replace h := And.right h hc23
        refine GC.skip ?_
        refine GC.region ?_
        refine GL.val trivial rfl (OV.move (v := .int .i64 x9.1) rfl) ?_
        obtain ⟨x24, hr25, h⟩ := h
        refine GL.val trivial rfl (OV.loadT (p := (b20, 0)) (cs := T_api_Value.c x24) rfl rfl rfl hr25) ?_
        refine GL.val trivial rfl (OV.move (v := .int .i64 p_most) rfl) ?_
        refine GL.val trivial rfl (OV.ibin (v := .int .i64 (w .i64 (p_most - 1))) rfl rfl rfl) ?_
        refine GL.call h trivial rfl ok_value_depth (vs := [.agg (T_api_Value.c x24).toArray, .int .i64 (w .i64 (p_most - 1))]) rfl ?_
        rintro _ H27 ⟨r26, rfl, h⟩
        refine GL.val trivial rfl (OV.maxI rfl rfl) ?_
        refine GL.val trivial rfl (OV.assign (v := .int .i64 (if r26 > x9.1 then r26 else x9.1 : Int)) rfl) ?_
        refine GL.nil_to (fun _ _ h => h) ?_
        refine GC.region ?_
        refine GL.val trivial rfl (OV.ibin (v := .int .i64 (w .i64 (x9.2 + 1))) rfl rfl rfl) ?_
        refine GL.val trivial rfl (OV.move (v := .int .i64 (w .i64 (x9.2 + 1))) rfl) ?_
        exact GL.jump (fun _ _ h => h) ((if r26 > x9.1 then r26 else x9.1 : Int), (w .i64 (x9.2 + 1))) h ⟨rfl, rfl, rfl, rfl, rfl, trivial⟩
    · replace h := And.right h hc12
      exact GC.exit_jump (fun _ _ h => h) x9.1 h ⟨rfl, trivial⟩
  · intro x4 H5 h
    replace h := hR6 x4 H5 h
    refine GC.seq ?_
    refine GC.region ?_
    refine GL.val trivial rfl (OV.move (v := .int .i64 x4) rfl) ?_
    refine GL.val trivial rfl (OV.ibin (v := .int .i64 (w .i64 (x4 + 1))) rfl rfl rfl) ?_
    refine GL.val trivial rfl (OV.assign (v := .int .i64 (w .i64 (x4 + 1))) rfl) ?_
    refine GL.nil ?_
    exact GC.ret (fun _ _ hf hs => post_tmp1 rfl rfl hf hs ⟨(w .i64 (x4 + 1)), rfl, h⟩)

def sh_value_item_look (C : Ctx) (p_v : T_api_Value) (K : Bool → Bool → Heap → Prop) (H : Heap) : Prop :=
  nw (T_api_Value.c p_v) (fun b1 H2 =>
 ldI H2 .i64 ((b1, 0).1, (b1, 0).2 + 1) fun x3 =>
 jn (α := Bool) (fun b5 H11 =>
 jn (α := Bool) (fun b12 H18 =>
 jn (α := Bool × Bool) (fun x20 H21 =>
 ldL H21 ((b1, 0).1, (b1, 0).2 + 3) fun x149 =>
 lp (α := Bool × Bool × Int) (x20.1, x20.2, 0) H21 (fun x151 J152 H153 =>
 ift (decide ((x151.2.2 : Int) < (Sl.len x149 : Int)))
 (ixa x149 x151.2.2 fun p155 =>
 ldT H153 T_api_Value.c (p155.1, p155.2 + (x151.2.2 : Int).toNat * 4) fun x160 =>
 nw (T_api_Value.c T_api_Value.zero) (fun b162 H163 =>
 stT (b162, 0) (T_api_Value.c x160) (fun H164 =>
 ldT H164 T_api_Value.c (b162, 0) fun x165 =>
 c_value_item_look C x165 (fun r167 r168 H169 =>
 J152 ((x151.1 && r167), (x151.2.1 && r168), (w .i64 (x151.2.2 + 1))) H169) H164) H163) H153)
 (K x151.1 x151.2.1 H153)))
 (fun J19 => ldI H18 .u8 ((b1, 0).1, (b1, 0).2 + 0) fun x23 =>
 ift ((x23 : Int) == 1)
 (ldI H18 .i64 ((b1, 0).1, (b1, 0).2 + 1) fun x26 =>
 jn (α := Bool) (fun b28 H34 =>
 jn (α := Bool) (fun b35 H41 =>
 jn (α := Bool) (fun b42 H48 =>
 J19 (b42, true) H48)
 (fun J43 => ift b35
 (ldL H41 ((b1, 0).1, (b1, 0).2 + 3) fun x46 =>
 J43 (((Sl.len x46 : Int) : Int) == 0) H41)
 (J43 false H41)))
 (fun J36 => ift b28
 (ldS H34 ((b1, 0).1, (b1, 0).2 + 2) fun x39 =>
 J36 (x39 == ([] : Str)) H34)
 (J36 false H34)))
 (fun J29 => ift ((x26 : Int) == 0)
 (J29 true H18)
 (ldI H18 .i64 ((b1, 0).1, (b1, 0).2 + 1) fun x32 =>
 J29 ((x32 : Int) == 1) H18)))
 (ift ((x23 : Int) == 2)
 (ldS H18 ((b1, 0).1, (b1, 0).2 + 2) fun x50 =>
 jn (α := Bool) (fun b52 H58 =>
 J19 (b52, true) H58)
 (fun J53 => ift (x50 == ([] : Str))
 (ldL H18 ((b1, 0).1, (b1, 0).2 + 3) fun x56 =>
 J53 (((Sl.len x56 : Int) : Int) == 0) H18)
 (J53 false H18)))
 (ift ((x23 : Int) == 3)
 (ldS H18 ((b1, 0).1, (b1, 0).2 + 2) fun x60 =>
 c_value_number C x60 (fun r62 r63 H64 =>
 jn (α := Bool) (fun b65 H71 =>
 jn (α := Bool) (fun b72 H78 =>
 J19 (b72, (decide ((r62 : Int) ≤ 200))) H78)
 (fun J73 => ift b65
 (ldL H71 ((b1, 0).1, (b1, 0).2 + 3) fun x76 =>
 J73 (((Sl.len x76 : Int) : Int) == 0) H71)
 (J73 false H71)))
 (fun J66 => ift r63
 (ldI H64 .i64 ((b1, 0).1, (b1, 0).2 + 1) fun x69 =>
 J66 ((x69 : Int) == 0) H64)
 (J66 false H64))) H18)
 (ift ((x23 : Int) == 4)
 (jn (α := Bool × Bool) (fun x81 H82 =>
 J19 (x81.1, x81.2) H82)
 (fun J80 => dr H18 fun Hs84 =>
 ldI Hs84 .i64 ((b1, 0).1, (b1, 0).2 + 1) fun x86 =>
 ldS Hs84 ((b1, 0).1, (b1, 0).2 + 2) fun x88 =>
 ift ((x86 : Int) == 0)
 (ldL Hs84 ((b1, 0).1, (b1, 0).2 + 3) fun x91 =>
 J80 ((((Sl.len x91 : Int) : Int) == 0), (decide (((List.length x88 : Int) : Int) ≤ 4096))) H18)
 (J80 (false, (decide (((List.length x88 : Int) : Int) ≤ 4096))) H18)))
 (ift ((x23 : Int) == 5)
 (jn (α := Bool × Bool) (fun x95 H96 =>
 J19 (x95.1, x95.2) H96)
 (fun J94 => dr H18 fun Hs98 =>
 ldI Hs98 .i64 ((b1, 0).1, (b1, 0).2 + 1) fun x100 =>
 ldL Hs98 ((b1, 0).1, (b1, 0).2 + 3) fun x102 =>
 ift ((x100 : Int) == 0)
 (ldS Hs98 ((b1, 0).1, (b1, 0).2 + 2) fun x105 =>
 ift (x105 == ([] : Str))
 (ldL Hs98 ((b1, 0).1, (b1, 0).2 + 3) fun x108 =>
 J94 ((((Sl.len x108 : Int) : Int) != 1), (decide (((Sl.len x102 : Int) : Int) ≤ 16))) H18)
 (J94 (false, (decide (((Sl.len x102 : Int) : Int) ≤ 16))) H18))
 (J94 (false, (decide (((Sl.len x102 : Int) : Int) ≤ 16))) H18)))
 (ift ((x23 : Int) == 6)
 (ldS H18 ((b1, 0).1, (b1, 0).2 + 2) fun x111 =>
 c_strings_Cut C x111 [46] (fun r113 r114 r115 H116 =>
 jn (α := Bool × Bool) (fun x118 H119 =>
 J19 (x118.1, x118.2) H119)
 (fun J117 => dr H116 fun Hs121 =>
 ldI Hs121 .i64 ((b1, 0).1, (b1, 0).2 + 1) fun x123 =>
 ldL Hs121 ((b1, 0).1, (b1, 0).2 + 3) fun x125 =>
 ift ((x123 : Int) == 0)
 (c_value_name C r113 (fun r129 H130 =>
 Heap.le Hs121 H130 ∧
 ift r129
 (ift r115
 (c_value_name C r114 (fun r134 H135 =>
 Heap.le Hs121 H135 ∧
 ift r134
 (J117 (true, (decide (((Sl.len x125 : Int) : Int) ≤ 8))) H135)
 (ift (!r115)
 (ldS Hs121 ((b1, 0).1, (b1, 0).2 + 2) fun x138 =>
 ift (!(x138 == ([116, 114, 117, 101] : Str)))
 (ldS Hs121 ((b1, 0).1, (b1, 0).2 + 2) fun x141 =>
 J117 ((!(x141 == ([102, 97, 108, 115, 101] : Str))), (decide (((Sl.len x125 : Int) : Int) ≤ 8))) H135)
 (J117 (false, (decide (((Sl.len x125 : Int) : Int) ≤ 8))) H135))
 (J117 (false, (decide (((Sl.len x125 : Int) : Int) ≤ 8))) H135))) H130)
 (ift (!r115)
 (ldS Hs121 ((b1, 0).1, (b1, 0).2 + 2) fun x144 =>
 ift (!(x144 == ([116, 114, 117, 101] : Str)))
 (ldS Hs121 ((b1, 0).1, (b1, 0).2 + 2) fun x147 =>
 J117 ((!(x147 == ([102, 97, 108, 115, 101] : Str))), (decide (((Sl.len x125 : Int) : Int) ≤ 8))) H130)
 (J117 (false, (decide (((Sl.len x125 : Int) : Int) ≤ 8))) H130))
 (J117 (false, (decide (((Sl.len x125 : Int) : Int) ≤ 8))) H130)))
 (J117 (false, (decide (((Sl.len x125 : Int) : Int) ≤ 8))) H130)) H116)
 (J117 (false, (decide (((Sl.len x125 : Int) : Int) ≤ 8))) H116))) H18)
 (J19 (false, true) H18))))))))
 (fun J13 => ift b5
 (ldL H11 ((b1, 0).1, (b1, 0).2 + 3) fun x16 =>
 J13 (((Sl.len x16 : Int) : Int) == 0) H11)
 (J13 false H11)))
 (fun J6 => ift ((x3 : Int) == 0)
 (ldS H2 ((b1, 0).1, (b1, 0).2 + 2) fun x9 =>
 J6 (x9 == ([] : Str)) H2)
 (J6 false H2))) H

theorem ad_value_item_look (C : Ctx) (p_v : T_api_Value) (K : Bool → Bool → Heap → Prop) (H : Heap) (h : sh_value_item_look C p_v K H) : c_value_item_look C p_v K H := by
  refine Spec.enter Tryd.func71 rfl Tryd.ntmps71 rfl ?_
  refine GC.sub [(0, .agg (T_api_Value.c p_v).toArray)] ⟨rfl, trivial⟩ ?_
  refine GC.seq ?_
  refine GC.region ?_
  refine GL.box (v := .agg (T_api_Value.c p_v).toArray) (cs := T_api_Value.c p_v) h trivial rfl rfl rfl ?_
  intro b1 H2 h
  refine GL.val trivial rfl (OV.assign (v := .bool false) rfl) ?_
  refine GL.val trivial rfl (OV.assign (v := .bool false) rfl) ?_
  refine GL.nil ?_
  refine GC.seq ?_
  refine GC.region ?_
  refine GL.val trivial rfl (OV.fieldAddr (p := (b1, 0)) rfl rfl) ?_
  obtain ⟨x3, hr4, h⟩ := h
  refine GL.val trivial rfl (OV.load (p := ((b1, 0).1, (b1, 0).2 + 1)) rfl rfl hr4) ?_
  refine GL.val trivial rfl (OV.ibin (v := .bool ((x3 : Int) == 0)) rfl rfl rfl) ?_
  refine GL.val trivial rfl (OV.move (v := .bool ((x3 : Int) == 0)) rfl) ?_
  obtain ⟨J6, h, hR7⟩ := h
  refine GL.cut (α := Bool) 4 J6 (fun b5 => [(20, .bool b5), (1, pv (some (b1, 0)))]) ?_ ?_
  · rcases Bool.eq_false_or_eq_true ((x3 : Int) == 0) with hc8 | hc8
    · skip
      replace h := And.left h hc8
      refine GL.val ⟨_, _, rfl, rfl, hc8⟩ rfl (OV.fieldAddr (p := (b1, 0)) rfl rfl) ?_
      obtain ⟨x9, hr10, h⟩ := h
      refine GL.val ⟨_, _, rfl, rfl, hc8⟩ rfl (OV.load (p := ((b1, 0).1, (b1, 0).2 + 2)) rfl rfl hr10) ?_
      refine GL.val ⟨_, _, rfl, rfl, hc8⟩ rfl (OV.sbin (a := x9) (b := ([] : Str)) (v := .bool (x9 == ([] : Str))) rfl rfl rfl) ?_
      refine GL.val trivial rfl (OV.pickT (b := (x3 : Int) == 0) (v := .bool (x9 == ([] : Str))) rfl hc8 rfl) ?_
      exact GL.jump (fun _ _ h => h) (x9 == ([] : Str)) h ⟨rfl, rfl, trivial⟩
    · skip
      replace h := And.right h hc8
      refine GL.skip ⟨_, rfl, .inl ⟨_, rfl, hc8⟩⟩ rfl ?_
      refine GL.skip ⟨_, rfl, .inl ⟨_, rfl, hc8⟩⟩ rfl ?_
      refine GL.skip ⟨_, rfl, .inl ⟨_, rfl, hc8⟩⟩ rfl ?_
      refine GL.val trivial rfl (OV.pickF (b := (x3 : Int) == 0) (v := .bool false) rfl hc8 rfl) ?_
      exact GL.jump (fun _ _ h => h) false h ⟨rfl, rfl, trivial⟩
  intro b5 H11 h
  replace h := hR7 b5 H11 h
  refine GL.val trivial rfl (OV.move (v := .bool b5) rfl) ?_
  obtain ⟨J13, h, hR14⟩ := h
  refine GL.cut (α := Bool) 5 J13 (fun b12 => [(26, .bool b12), (1, pv (some (b1, 0)))]) ?_ ?_
  · rcases Bool.eq_false_or_eq_true b5 with hc15 | hc15
    · skip
      replace h := And.left h hc15
      refine GL.val ⟨_, _, rfl, rfl, hc15⟩ rfl (OV.fieldAddr (p := (b1, 0)) rfl rfl) ?_
      obtain ⟨x16, hr17, h⟩ := h
      refine GL.val ⟨_, _, rfl, rfl, hc15⟩ rfl (OV.load (p := ((b1, 0).1, (b1, 0).2 + 3)) rfl rfl hr17) ?_
      refine GL.val ⟨_, _, rfl, rfl, hc15⟩ rfl (OV.lenSl (s := x16) rfl rfl) ?_
      refine GL.val ⟨_, _, rfl, rfl, hc15⟩ rfl (OV.ibin (v := .bool (((Sl.len x16 : Int) : Int) == 0)) rfl rfl rfl) ?_
      refine GL.val trivial rfl (OV.pickT (b := b5) (v := .bool (((Sl.len x16 : Int) : Int) == 0)) rfl hc15 rfl) ?_
      exact GL.jump (fun _ _ h => h) (((Sl.len x16 : Int) : Int) == 0) h ⟨rfl, rfl, trivial⟩
    · skip
      replace h := And.right h hc15
      refine GL.skip ⟨_, rfl, .inl ⟨_, rfl, hc15⟩⟩ rfl ?_
      refine GL.skip ⟨_, rfl, .inl ⟨_, rfl, hc15⟩⟩ rfl ?_
      refine GL.skip ⟨_, rfl, .inl ⟨_, rfl, hc15⟩⟩ rfl ?_
      refine GL.skip ⟨_, rfl, .inl ⟨_, rfl, hc15⟩⟩ rfl ?_
      refine GL.val trivial rfl (OV.pickF (b := b5) (v := .bool false) rfl hc15 rfl) ?_
      exact GL.jump (fun _ _ h => h) false h ⟨rfl, rfl, trivial⟩
  intro b12 H18 h
  replace h := hR14 b12 H18 h
  refine GL.val trivial rfl (OV.assign (v := .bool b12) rfl) ?_
  refine GL.val trivial rfl (OV.assign (v := .bool true) rfl) ?_
  refine GL.nil ?_
  obtain ⟨J19, h, hR22⟩ := h
  refine GC.join (α := Bool × Bool) J19 (fun x20 => [(2, .bool x20.1), (3, .bool x20.2), (1, pv (some (b1, 0)))]) ?_ ?_
  · skip
    refine GC.seq ?_
    refine GC.region ?_
    refine GL.val trivial rfl (OV.fieldAddr (p := (b1, 0)) rfl rfl) ?_
    obtain ⟨x23, hr24, h⟩ := h
    refine GL.val trivial rfl (OV.load (p := ((b1, 0).1, (b1, 0).2 + 0)) rfl rfl hr24) ?_
    refine GL.nil ?_
    refine GC.block ?_
    refine GC.seq ?_
    refine GC.region ?_
    refine GL.val trivial rfl (OV.ibin (v := .bool ((x23 : Int) == 1)) rfl rfl rfl) ?_
    refine GL.val trivial rfl (OV.assign (v := .bool ((x23 : Int) == 1)) rfl) ?_
    refine GL.nil ?_
    refine GC.cond (b := (x23 : Int) == 1) rfl (fun hc25 => ?_) (fun hc25 => ?_)
    · replace h := And.left h hc25
      refine GC.region ?_
      refine GL.val trivial rfl (OV.fieldAddr (p := (b1, 0)) rfl rfl) ?_
      obtain ⟨x26, hr27, h⟩ := h
      refine GL.val trivial rfl (OV.load (p := ((b1, 0).1, (b1, 0).2 + 1)) rfl rfl hr27) ?_
      refine GL.val trivial rfl (OV.ibin (v := .bool ((x26 : Int) == 0)) rfl rfl rfl) ?_
      refine GL.val trivial rfl (OV.move (v := .bool ((x26 : Int) == 0)) rfl) ?_
      obtain ⟨J29, h, hR30⟩ := h
      refine GL.cut (α := Bool) 4 J29 (fun b28 => [(38, .bool b28), (1, pv (some (b1, 0))), (3, .bool true)]) ?_ ?_
      · rcases Bool.eq_false_or_eq_true ((x26 : Int) == 0) with hc31 | hc31
        · skip
          replace h := And.left h hc31
          refine GL.skip ⟨_, rfl, .inl ⟨_, rfl, hc31⟩⟩ rfl ?_
          refine GL.skip ⟨_, rfl, .inl ⟨_, rfl, hc31⟩⟩ rfl ?_
          refine GL.skip ⟨_, rfl, .inl ⟨_, rfl, hc31⟩⟩ rfl ?_
          refine GL.val trivial rfl (OV.pickT (b := (x26 : Int) == 0) (v := .bool true) rfl hc31 rfl) ?_
          exact GL.jump (fun _ _ h => h) true h ⟨rfl, rfl, rfl, trivial⟩
        · skip
          replace h := And.right h hc31
          refine GL.val ⟨_, _, rfl, rfl, hc31⟩ rfl (OV.fieldAddr (p := (b1, 0)) rfl rfl) ?_
          obtain ⟨x32, hr33, h⟩ := h
          refine GL.val ⟨_, _, rfl, rfl, hc31⟩ rfl (OV.load (p := ((b1, 0).1, (b1, 0).2 + 1)) rfl rfl hr33) ?_
          refine GL.val ⟨_, _, rfl, rfl, hc31⟩ rfl (OV.ibin (v := .bool ((x32 : Int) == 1)) rfl rfl rfl) ?_
          refine GL.val trivial rfl (OV.pickF (b := (x26 : Int) == 0) (v := .bool ((x32 : Int) == 1)) rfl hc31 rfl) ?_
          exact GL.jump (fun _ _ h => h) ((x32 : Int) == 1) h ⟨rfl, rfl, rfl, trivial⟩
      intro b28 H34 h
      replace h := hR30 b28 H34 h
      refine GL.val trivial rfl (OV.move (v := .bool b28) rfl) ?_
      obtain ⟨J36, h, hR37⟩ := h
      refine GL.cut (α := Bool) 4 J36 (fun b35 => [(43, .bool b35), (1, pv (some (b1, 0))), (3, .bool true)]) ?_ ?_
      · rcases Bool.eq_false_or_eq_true b28 with hc38 | hc38
        · skip
          replace h := And.left h hc38
          refine GL.val ⟨_, _, rfl, rfl, hc38⟩ rfl (OV.fieldAddr (p := (b1, 0)) rfl rfl) ?_
          obtain ⟨x39, hr40, h⟩ := h
          refine GL.val ⟨_, _, rfl, rfl, hc38⟩ rfl (OV.load (p := ((b1, 0).1, (b1, 0).2 + 2)) rfl rfl hr40) ?_
          refine GL.val ⟨_, _, rfl, rfl, hc38⟩ rfl (OV.sbin (a := x39) (b := ([] : Str)) (v := .bool (x39 == ([] : Str))) rfl rfl rfl) ?_
          refine GL.val trivial rfl (OV.pickT (b := b28) (v := .bool (x39 == ([] : Str))) rfl hc38 rfl) ?_
          exact GL.jump (fun _ _ h => h) (x39 == ([] : Str)) h ⟨rfl, rfl, rfl, trivial⟩
        · skip
          replace h := And.right h hc38
          refine GL.skip ⟨_, rfl, .inl ⟨_, rfl, hc38⟩⟩ rfl ?_
          refine GL.skip ⟨_, rfl, .inl ⟨_, rfl, hc38⟩⟩ rfl ?_
          refine GL.skip ⟨_, rfl, .inl ⟨_, rfl, hc38⟩⟩ rfl ?_
          refine GL.val trivial rfl (OV.pickF (b := b28) (v := .bool false) rfl hc38 rfl) ?_
          exact GL.jump (fun _ _ h => h) false h ⟨rfl, rfl, rfl, trivial⟩
      intro b35 H41 h
      replace h := hR37 b35 H41 h
      refine GL.val trivial rfl (OV.move (v := .bool b35) rfl) ?_
      obtain ⟨J43, h, hR44⟩ := h
      refine GL.cut (α := Bool) 5 J43 (fun b42 => [(49, .bool b42), (1, pv (some (b1, 0))), (3, .bool true)]) ?_ ?_
      · rcases Bool.eq_false_or_eq_true b35 with hc45 | hc45
        · skip
          replace h := And.left h hc45
          refine GL.val ⟨_, _, rfl, rfl, hc45⟩ rfl (OV.fieldAddr (p := (b1, 0)) rfl rfl) ?_
          obtain ⟨x46, hr47, h⟩ := h
          refine GL.val ⟨_, _, rfl, rfl, hc45⟩ rfl (OV.load (p := ((b1, 0).1, (b1, 0).2 + 3)) rfl rfl hr47) ?_
          refine GL.val ⟨_, _, rfl, rfl, hc45⟩ rfl (OV.lenSl (s := x46) rfl rfl) ?_
          refine GL.val ⟨_, _, rfl, rfl, hc45⟩ rfl (OV.ibin (v := .bool (((Sl.len x46 : Int) : Int) == 0)) rfl rfl rfl) ?_
          refine GL.val trivial rfl (OV.pickT (b := b35) (v := .bool (((Sl.len x46 : Int) : Int) == 0)) rfl hc45 rfl) ?_
          exact GL.jump (fun _ _ h => h) (((Sl.len x46 : Int) : Int) == 0) h ⟨rfl, rfl, rfl, trivial⟩
        · skip
          replace h := And.right h hc45
          refine GL.skip ⟨_, rfl, .inl ⟨_, rfl, hc45⟩⟩ rfl ?_
          refine GL.skip ⟨_, rfl, .inl ⟨_, rfl, hc45⟩⟩ rfl ?_
          refine GL.skip ⟨_, rfl, .inl ⟨_, rfl, hc45⟩⟩ rfl ?_
          refine GL.skip ⟨_, rfl, .inl ⟨_, rfl, hc45⟩⟩ rfl ?_
          refine GL.val trivial rfl (OV.pickF (b := b35) (v := .bool false) rfl hc45 rfl) ?_
          exact GL.jump (fun _ _ h => h) false h ⟨rfl, rfl, rfl, trivial⟩
      intro b42 H48 h
      replace h := hR44 b42 H48 h
      refine GL.val trivial rfl (OV.assign (v := .bool b42) rfl) ?_
      exact GL.jump (fun _ _ h => h) (b42, true) h ⟨rfl, rfl, rfl, trivial⟩
    · replace h := And.right h hc25
      refine GC.seq ?_
      refine GC.region ?_
      refine GL.val trivial rfl (OV.ibin (v := .bool ((x23 : Int) == 2)) rfl rfl rfl) ?_
      refine GL.val trivial rfl (OV.assign (v := .bool ((x23 : Int) == 2)) rfl) ?_
      refine GL.nil ?_
      refine GC.cond (b := (x23 : Int) == 2) rfl (fun hc49 => ?_) (fun hc49 => ?_)
      · replace h := And.left h hc49
        refine GC.region ?_
        refine GL.val trivial rfl (OV.fieldAddr (p := (b1, 0)) rfl rfl) ?_
        obtain ⟨x50, hr51, h⟩ := h
        refine GL.val trivial rfl (OV.load (p := ((b1, 0).1, (b1, 0).2 + 2)) rfl rfl hr51) ?_
        refine GL.val trivial rfl (OV.sbin (a := x50) (b := ([] : Str)) (v := .bool (x50 == ([] : Str))) rfl rfl rfl) ?_
        refine GL.val trivial rfl (OV.move (v := .bool (x50 == ([] : Str))) rfl) ?_
        obtain ⟨J53, h, hR54⟩ := h
        refine GL.cut (α := Bool) 5 J53 (fun b52 => [(60, .bool b52), (1, pv (some (b1, 0))), (3, .bool true)]) ?_ ?_
        · rcases Bool.eq_false_or_eq_true (x50 == ([] : Str)) with hc55 | hc55
          · skip
            replace h := And.left h hc55
            refine GL.val ⟨_, _, rfl, rfl, hc55⟩ rfl (OV.fieldAddr (p := (b1, 0)) rfl rfl) ?_
            obtain ⟨x56, hr57, h⟩ := h
            refine GL.val ⟨_, _, rfl, rfl, hc55⟩ rfl (OV.load (p := ((b1, 0).1, (b1, 0).2 + 3)) rfl rfl hr57) ?_
            refine GL.val ⟨_, _, rfl, rfl, hc55⟩ rfl (OV.lenSl (s := x56) rfl rfl) ?_
            refine GL.val ⟨_, _, rfl, rfl, hc55⟩ rfl (OV.ibin (v := .bool (((Sl.len x56 : Int) : Int) == 0)) rfl rfl rfl) ?_
            refine GL.val trivial rfl (OV.pickT (b := x50 == ([] : Str)) (v := .bool (((Sl.len x56 : Int) : Int) == 0)) rfl hc55 rfl) ?_
            exact GL.jump (fun _ _ h => h) (((Sl.len x56 : Int) : Int) == 0) h ⟨rfl, rfl, rfl, trivial⟩
          · skip
            replace h := And.right h hc55
            refine GL.skip ⟨_, rfl, .inl ⟨_, rfl, hc55⟩⟩ rfl ?_
            refine GL.skip ⟨_, rfl, .inl ⟨_, rfl, hc55⟩⟩ rfl ?_
            refine GL.skip ⟨_, rfl, .inl ⟨_, rfl, hc55⟩⟩ rfl ?_
            refine GL.skip ⟨_, rfl, .inl ⟨_, rfl, hc55⟩⟩ rfl ?_
            refine GL.val trivial rfl (OV.pickF (b := x50 == ([] : Str)) (v := .bool false) rfl hc55 rfl) ?_
            exact GL.jump (fun _ _ h => h) false h ⟨rfl, rfl, rfl, trivial⟩
        intro b52 H58 h
        replace h := hR54 b52 H58 h
        refine GL.val trivial rfl (OV.assign (v := .bool b52) rfl) ?_
        exact GL.jump (fun _ _ h => h) (b52, true) h ⟨rfl, rfl, rfl, trivial⟩
      · replace h := And.right h hc49
        refine GC.seq ?_
        refine GC.region ?_
        refine GL.val trivial rfl (OV.ibin (v := .bool ((x23 : Int) == 3)) rfl rfl rfl) ?_
        refine GL.val trivial rfl (OV.assign (v := .bool ((x23 : Int) == 3)) rfl) ?_
        refine GL.nil ?_
        refine GC.cond (b := (x23 : Int) == 3) rfl (fun hc59 => ?_) (fun hc59 => ?_)
        · replace h := And.left h hc59
          refine GC.seq ?_
          refine GC.region ?_
          refine GL.val trivial rfl (OV.fieldAddr (p := (b1, 0)) rfl rfl) ?_
          obtain ⟨x60, hr61, h⟩ := h
          refine GL.val trivial rfl (OV.load (p := ((b1, 0).1, (b1, 0).2 + 2)) rfl rfl hr61) ?_
          refine GL.call h trivial rfl ok_value_number (vs := [sv x60]) rfl ?_
          rintro _ H64 ⟨r62, r63, rfl, h⟩
          refine GL.val trivial rfl (OV.move (v := .tuple #[.int .i64 r62, .bool r63]) rfl) ?_
          refine GL.val trivial rfl (OV.extract (v := .int .i64 r62) rfl rfl) ?_
          refine GL.val trivial rfl (OV.extract (v := .bool r63) rfl rfl) ?_
          refine GL.val trivial rfl (OV.assign (v := .int .i64 r62) rfl) ?_
          refine GL.val trivial rfl (OV.assign (v := .bool r63) rfl) ?_
          refine GL.nil ?_
          refine GC.region ?_
          refine GL.val trivial rfl (OV.move (v := .bool r63) rfl) ?_
          refine GL.val trivial rfl (OV.move (v := .bool r63) rfl) ?_
          obtain ⟨J66, h, hR67⟩ := h
          refine GL.cut (α := Bool) 4 J66 (fun b65 => [(74, .bool b65), (1, pv (some (b1, 0))), (4, .int .i64 r62)]) ?_ ?_
          · rcases Bool.eq_false_or_eq_true r63 with hc68 | hc68
            · skip
              replace h := And.left h hc68
              refine GL.val ⟨_, _, rfl, rfl, hc68⟩ rfl (OV.fieldAddr (p := (b1, 0)) rfl rfl) ?_
              obtain ⟨x69, hr70, h⟩ := h
              refine GL.val ⟨_, _, rfl, rfl, hc68⟩ rfl (OV.load (p := ((b1, 0).1, (b1, 0).2 + 1)) rfl rfl hr70) ?_
              refine GL.val ⟨_, _, rfl, rfl, hc68⟩ rfl (OV.ibin (v := .bool ((x69 : Int) == 0)) rfl rfl rfl) ?_
              refine GL.val trivial rfl (OV.pickT (b := r63) (v := .bool ((x69 : Int) == 0)) rfl hc68 rfl) ?_
              exact GL.jump (fun _ _ h => h) ((x69 : Int) == 0) h ⟨rfl, rfl, rfl, trivial⟩
            · skip
              replace h := And.right h hc68
              refine GL.skip ⟨_, rfl, .inl ⟨_, rfl, hc68⟩⟩ rfl ?_
              refine GL.skip ⟨_, rfl, .inl ⟨_, rfl, hc68⟩⟩ rfl ?_
              refine GL.skip ⟨_, rfl, .inl ⟨_, rfl, hc68⟩⟩ rfl ?_
              refine GL.val trivial rfl (OV.pickF (b := r63) (v := .bool false) rfl hc68 rfl) ?_
              exact GL.jump (fun _ _ h => h) false h ⟨rfl, rfl, rfl, trivial⟩
          intro b65 H71 h
          replace h := hR67 b65 H71 h
          refine GL.val trivial rfl (OV.move (v := .bool b65) rfl) ?_
          obtain ⟨J73, h, hR74⟩ := h
          refine GL.cut (α := Bool) 5 J73 (fun b72 => [(80, .bool b72), (1, pv (some (b1, 0))), (4, .int .i64 r62)]) ?_ ?_
          · rcases Bool.eq_false_or_eq_true b65 with hc75 | hc75
            · skip
              replace h := And.left h hc75
              refine GL.val ⟨_, _, rfl, rfl, hc75⟩ rfl (OV.fieldAddr (p := (b1, 0)) rfl rfl) ?_
              obtain ⟨x76, hr77, h⟩ := h
              refine GL.val ⟨_, _, rfl, rfl, hc75⟩ rfl (OV.load (p := ((b1, 0).1, (b1, 0).2 + 3)) rfl rfl hr77) ?_
              refine GL.val ⟨_, _, rfl, rfl, hc75⟩ rfl (OV.lenSl (s := x76) rfl rfl) ?_
              refine GL.val ⟨_, _, rfl, rfl, hc75⟩ rfl (OV.ibin (v := .bool (((Sl.len x76 : Int) : Int) == 0)) rfl rfl rfl) ?_
              refine GL.val trivial rfl (OV.pickT (b := b65) (v := .bool (((Sl.len x76 : Int) : Int) == 0)) rfl hc75 rfl) ?_
              exact GL.jump (fun _ _ h => h) (((Sl.len x76 : Int) : Int) == 0) h ⟨rfl, rfl, rfl, trivial⟩
            · skip
              replace h := And.right h hc75
              refine GL.skip ⟨_, rfl, .inl ⟨_, rfl, hc75⟩⟩ rfl ?_
              refine GL.skip ⟨_, rfl, .inl ⟨_, rfl, hc75⟩⟩ rfl ?_
              refine GL.skip ⟨_, rfl, .inl ⟨_, rfl, hc75⟩⟩ rfl ?_
              refine GL.skip ⟨_, rfl, .inl ⟨_, rfl, hc75⟩⟩ rfl ?_
              refine GL.val trivial rfl (OV.pickF (b := b65) (v := .bool false) rfl hc75 rfl) ?_
              exact GL.jump (fun _ _ h => h) false h ⟨rfl, rfl, rfl, trivial⟩
          intro b72 H78 h
          replace h := hR74 b72 H78 h
          refine GL.val trivial rfl (OV.move (v := .int .i64 r62) rfl) ?_
          refine GL.val trivial rfl (OV.ibin (v := .bool (decide ((r62 : Int) ≤ 200))) rfl rfl rfl) ?_
          refine GL.val trivial rfl (OV.assign (v := .bool b72) rfl) ?_
          refine GL.val trivial rfl (OV.assign (v := .bool (decide ((r62 : Int) ≤ 200))) rfl) ?_
          exact GL.jump (fun _ _ h => h) (b72, (decide ((r62 : Int) ≤ 200))) h ⟨rfl, rfl, rfl, trivial⟩
        · replace h := And.right h hc59
          refine GC.seq ?_
          refine GC.region ?_
          refine GL.val trivial rfl (OV.ibin (v := .bool ((x23 : Int) == 4)) rfl rfl rfl) ?_
          refine GL.val trivial rfl (OV.assign (v := .bool ((x23 : Int) == 4)) rfl) ?_
          refine GL.nil ?_
          refine GC.cond (b := (x23 : Int) == 4) rfl (fun hc79 => ?_) (fun hc79 => ?_)
          · replace h := And.left h hc79
            obtain ⟨J80, h, hR83⟩ := h
            refine GC.meet (α := Bool × Bool) J80 (fun x81 => [(2, .bool x81.1), (3, .bool x81.2), (1, pv (some (b1, 0)))]) ?_ ?_
            · skip
              obtain ⟨Hs84, hle85, h⟩ := h
              refine GC.any (Hs := Hs84) (by kernel_rfl) hle85 ?_
              refine GA.take 0 rfl (by kernel_rfl) (by kernel_rfl) (by kernel_rfl) (fun _ _ _ h => False.elim h) trivial rfl (OV.fieldAddr (p := (b1, 0)) rfl rfl) ?_
              obtain ⟨x86, hr87, h⟩ := h
              refine GA.take 1 rfl (by kernel_rfl) (by kernel_rfl) (by kernel_rfl) (fun _ _ _ h => False.elim h) trivial rfl (OV.load (p := ((b1, 0).1, (b1, 0).2 + 1)) rfl rfl hr87) ?_
              refine GA.take 2 rfl (by kernel_rfl) (by kernel_rfl) (by kernel_rfl) (fun _ _ _ h => False.elim h) trivial rfl (OV.ibin (v := .bool ((x86 : Int) == 0)) rfl rfl rfl) ?_
              refine GA.take 3 rfl (by kernel_rfl) (by kernel_rfl) (by kernel_rfl) (fun _ _ _ h => False.elim h) trivial rfl (OV.move (v := .bool ((x86 : Int) == 0)) rfl) ?_
              refine GA.take 9 rfl (by kernel_rfl) (by kernel_rfl) (by kernel_rfl) (fun _ _ _ h => False.elim h) trivial rfl (OV.fieldAddr (p := (b1, 0)) rfl rfl) ?_
              obtain ⟨x88, hr89, h⟩ := h
              refine GA.take 10 rfl (by kernel_rfl) (by kernel_rfl) (by kernel_rfl) (fun _ _ _ h => False.elim h) trivial rfl (OV.load (p := ((b1, 0).1, (b1, 0).2 + 2)) rfl rfl hr89) ?_
              refine GA.take 11 rfl (by kernel_rfl) (by kernel_rfl) (by kernel_rfl) (fun _ _ _ h => False.elim h) trivial rfl (OV.lenStr (s := x88) rfl rfl) ?_
              refine GA.take 12 rfl (by kernel_rfl) (by kernel_rfl) (by kernel_rfl) (fun _ _ _ h => False.elim h) trivial rfl (OV.ibin (v := .bool (decide (((List.length x88 : Int) : Int) ≤ 4096))) rfl rfl rfl) ?_
              rcases Bool.eq_false_or_eq_true ((x86 : Int) == 0) with hc90 | hc90
              · replace h := And.left h hc90
                refine GA.take 4 rfl (by kernel_rfl) (by kernel_rfl) (by kernel_rfl) (fun _ _ _ h => False.elim h) ⟨_, _, rfl, rfl, hc90⟩ rfl (OV.fieldAddr (p := (b1, 0)) rfl rfl) ?_
                obtain ⟨x91, hr92, h⟩ := h
                refine GA.take 5 rfl (by kernel_rfl) (by kernel_rfl) (by kernel_rfl) (fun _ _ _ h => False.elim h) ⟨_, _, rfl, rfl, hc90⟩ rfl (OV.load (p := ((b1, 0).1, (b1, 0).2 + 3)) rfl rfl hr92) ?_
                refine GA.take 6 rfl (by kernel_rfl) (by kernel_rfl) (by kernel_rfl) (fun _ _ _ h => False.elim h) ⟨_, _, rfl, rfl, hc90⟩ rfl (OV.lenSl (s := x91) rfl rfl) ?_
                refine GA.take 7 rfl (by kernel_rfl) (by kernel_rfl) (by kernel_rfl) (fun _ _ _ h => False.elim h) ⟨_, _, rfl, rfl, hc90⟩ rfl (OV.ibin (v := .bool (((Sl.len x91 : Int) : Int) == 0)) rfl rfl rfl) ?_
                refine GA.take 8 rfl (by kernel_rfl) (by kernel_rfl) (by kernel_rfl) (fun _ _ _ h => False.elim h) trivial rfl (OV.pickT (b := (x86 : Int) == 0) (v := .bool (((Sl.len x91 : Int) : Int) == 0)) rfl hc90 rfl) ?_
                refine GA.take 13 rfl (by kernel_rfl) (by kernel_rfl) (by kernel_rfl) (fun _ _ _ h => False.elim h) trivial rfl (OV.assign (v := .bool (((Sl.len x91 : Int) : Int) == 0)) rfl) ?_
                refine GA.take 14 rfl (by kernel_rfl) (by kernel_rfl) (by kernel_rfl) (fun _ _ _ h => False.elim h) trivial rfl (OV.assign (v := .bool (decide (((List.length x88 : Int) : Int) ≤ 4096))) rfl) ?_
                refine GA.done (by kernel_rfl) ?_
                exact GL.jump (fun _ _ h => h) ((((Sl.len x91 : Int) : Int) == 0), (decide (((List.length x88 : Int) : Int) ≤ 4096))) h ⟨rfl, rfl, rfl, trivial⟩
              · replace h := And.right h hc90
                refine GA.skip 4 rfl (by kernel_rfl) (by kernel_rfl) (by kernel_rfl) (fun _ _ _ h => False.elim h) ⟨_, rfl, .inl ⟨_, rfl, hc90⟩⟩ rfl ?_
                refine GA.skip 5 rfl (by kernel_rfl) (by kernel_rfl) (by kernel_rfl) (fun _ _ _ h => False.elim h) ⟨_, rfl, .inl ⟨_, rfl, hc90⟩⟩ rfl ?_
                refine GA.skip 6 rfl (by kernel_rfl) (by kernel_rfl) (by kernel_rfl) (fun _ _ _ h => False.elim h) ⟨_, rfl, .inl ⟨_, rfl, hc90⟩⟩ rfl ?_
                refine GA.skip 7 rfl (by kernel_rfl) (by kernel_rfl) (by kernel_rfl) (fun _ _ _ h => False.elim h) ⟨_, rfl, .inl ⟨_, rfl, hc90⟩⟩ rfl ?_
                refine GA.take 8 rfl (by kernel_rfl) (by kernel_rfl) (by kernel_rfl) (fun _ _ _ h => False.elim h) trivial rfl (OV.pickF (b := (x86 : Int) == 0) (v := .bool false) rfl hc90 rfl) ?_
                refine GA.take 13 rfl (by kernel_rfl) (by kernel_rfl) (by kernel_rfl) (fun _ _ _ h => False.elim h) trivial rfl (OV.assign (v := .bool false) rfl) ?_
                refine GA.take 14 rfl (by kernel_rfl) (by kernel_rfl) (by kernel_rfl) (fun _ _ _ h => False.elim h) trivial rfl (OV.assign (v := .bool (decide (((List.length x88 : Int) : Int) ≤ 4096))) rfl) ?_
                refine GA.done (by kernel_rfl) ?_
                exact GL.jump (fun _ _ h => h) (false, (decide (((List.length x88 : Int) : Int) ≤ 4096))) h ⟨rfl, rfl, rfl, trivial⟩
            · intro x81 H82 h
              replace h := hR83 x81 H82 h
              exact GL.jump (fun _ _ h => h) (x81.1, x81.2) h ⟨rfl, rfl, rfl, trivial⟩
          · replace h := And.right h hc79
            refine GC.seq ?_
            refine GC.region ?_
            refine GL.val trivial rfl (OV.ibin (v := .bool ((x23 : Int) == 5)) rfl rfl rfl) ?_
            refine GL.val trivial rfl (OV.assign (v := .bool ((x23 : Int) == 5)) rfl) ?_
            refine GL.nil ?_
            refine GC.cond (b := (x23 : Int) == 5) rfl (fun hc93 => ?_) (fun hc93 => ?_)
            · replace h := And.left h hc93
              obtain ⟨J94, h, hR97⟩ := h
              refine GC.meet (α := Bool × Bool) J94 (fun x95 => [(2, .bool x95.1), (3, .bool x95.2), (1, pv (some (b1, 0)))]) ?_ ?_
              · skip
                obtain ⟨Hs98, hle99, h⟩ := h
                refine GC.any (Hs := Hs98) (by kernel_rfl) hle99 ?_
                refine GA.take 0 rfl (by kernel_rfl) (by kernel_rfl) (by kernel_rfl) (fun _ _ _ h => False.elim h) trivial rfl (OV.fieldAddr (p := (b1, 0)) rfl rfl) ?_
                obtain ⟨x100, hr101, h⟩ := h
                refine GA.take 1 rfl (by kernel_rfl) (by kernel_rfl) (by kernel_rfl) (fun _ _ _ h => False.elim h) trivial rfl (OV.load (p := ((b1, 0).1, (b1, 0).2 + 1)) rfl rfl hr101) ?_
                refine GA.take 2 rfl (by kernel_rfl) (by kernel_rfl) (by kernel_rfl) (fun _ _ _ h => False.elim h) trivial rfl (OV.ibin (v := .bool ((x100 : Int) == 0)) rfl rfl rfl) ?_
                refine GA.take 3 rfl (by kernel_rfl) (by kernel_rfl) (by kernel_rfl) (fun _ _ _ h => False.elim h) trivial rfl (OV.move (v := .bool ((x100 : Int) == 0)) rfl) ?_
                refine GA.take 14 rfl (by kernel_rfl) (by kernel_rfl) (by kernel_rfl) (fun _ _ _ h => False.elim h) trivial rfl (OV.fieldAddr (p := (b1, 0)) rfl rfl) ?_
                obtain ⟨x102, hr103, h⟩ := h
                refine GA.take 15 rfl (by kernel_rfl) (by kernel_rfl) (by kernel_rfl) (fun _ _ _ h => False.elim h) trivial rfl (OV.load (p := ((b1, 0).1, (b1, 0).2 + 3)) rfl rfl hr103) ?_
                refine GA.take 16 rfl (by kernel_rfl) (by kernel_rfl) (by kernel_rfl) (fun _ _ _ h => False.elim h) trivial rfl (OV.lenSl (s := x102) rfl rfl) ?_
                refine GA.take 17 rfl (by kernel_rfl) (by kernel_rfl) (by kernel_rfl) (fun _ _ _ h => False.elim h) trivial rfl (OV.ibin (v := .bool (decide (((Sl.len x102 : Int) : Int) ≤ 16))) rfl rfl rfl) ?_
                rcases Bool.eq_false_or_eq_true ((x100 : Int) == 0) with hc104 | hc104
                · replace h := And.left h hc104
                  refine GA.take 4 rfl (by kernel_rfl) (by kernel_rfl) (by kernel_rfl) (fun _ _ _ h => False.elim h) ⟨_, _, rfl, rfl, hc104⟩ rfl (OV.fieldAddr (p := (b1, 0)) rfl rfl) ?_
                  obtain ⟨x105, hr106, h⟩ := h
                  refine GA.take 5 rfl (by kernel_rfl) (by kernel_rfl) (by kernel_rfl) (fun _ _ _ h => False.elim h) ⟨_, _, rfl, rfl, hc104⟩ rfl (OV.load (p := ((b1, 0).1, (b1, 0).2 + 2)) rfl rfl hr106) ?_
                  refine GA.take 6 rfl (by kernel_rfl) (by kernel_rfl) (by kernel_rfl) (fun _ _ _ h => False.elim h) ⟨_, _, rfl, rfl, hc104⟩ rfl (OV.sbin (a := x105) (b := ([] : Str)) (v := .bool (x105 == ([] : Str))) rfl rfl rfl) ?_
                  refine GA.take 7 rfl (by kernel_rfl) (by kernel_rfl) (by kernel_rfl) (fun _ _ _ h => False.elim h) trivial rfl (OV.pickT (b := (x100 : Int) == 0) (v := .bool (x105 == ([] : Str))) rfl hc104 rfl) ?_
                  refine GA.take 8 rfl (by kernel_rfl) (by kernel_rfl) (by kernel_rfl) (fun _ _ _ h => False.elim h) trivial rfl (OV.move (v := .bool (x105 == ([] : Str))) rfl) ?_
                  rcases Bool.eq_false_or_eq_true (x105 == ([] : Str)) with hc107 | hc107
                  · replace h := And.left h hc107
                    refine GA.take 9 rfl (by kernel_rfl) (by kernel_rfl) (by kernel_rfl) (fun _ _ _ h => False.elim h) ⟨_, _, rfl, rfl, hc107⟩ rfl (OV.fieldAddr (p := (b1, 0)) rfl rfl) ?_
                    obtain ⟨x108, hr109, h⟩ := h
                    refine GA.take 10 rfl (by kernel_rfl) (by kernel_rfl) (by kernel_rfl) (fun _ _ _ h => False.elim h) ⟨_, _, rfl, rfl, hc107⟩ rfl (OV.load (p := ((b1, 0).1, (b1, 0).2 + 3)) rfl rfl hr109) ?_
                    refine GA.take 11 rfl (by kernel_rfl) (by kernel_rfl) (by kernel_rfl) (fun _ _ _ h => False.elim h) ⟨_, _, rfl, rfl, hc107⟩ rfl (OV.lenSl (s := x108) rfl rfl) ?_
                    refine GA.take 12 rfl (by kernel_rfl) (by kernel_rfl) (by kernel_rfl) (fun _ _ _ h => False.elim h) ⟨_, _, rfl, rfl, hc107⟩ rfl (OV.ibin (v := .bool (((Sl.len x108 : Int) : Int) != 1)) rfl rfl rfl) ?_
                    refine GA.take 13 rfl (by kernel_rfl) (by kernel_rfl) (by kernel_rfl) (fun _ _ _ h => False.elim h) trivial rfl (OV.pickT (b := x105 == ([] : Str)) (v := .bool (((Sl.len x108 : Int) : Int) != 1)) rfl hc107 rfl) ?_
                    refine GA.take 18 rfl (by kernel_rfl) (by kernel_rfl) (by kernel_rfl) (fun _ _ _ h => False.elim h) trivial rfl (OV.assign (v := .bool (((Sl.len x108 : Int) : Int) != 1)) rfl) ?_
                    refine GA.take 19 rfl (by kernel_rfl) (by kernel_rfl) (by kernel_rfl) (fun _ _ _ h => False.elim h) trivial rfl (OV.assign (v := .bool (decide (((Sl.len x102 : Int) : Int) ≤ 16))) rfl) ?_
                    refine GA.done (by kernel_rfl) ?_
                    exact GL.jump (fun _ _ h => h) ((((Sl.len x108 : Int) : Int) != 1), (decide (((Sl.len x102 : Int) : Int) ≤ 16))) h ⟨rfl, rfl, rfl, trivial⟩
                  · replace h := And.right h hc107
                    refine GA.skip 9 rfl (by kernel_rfl) (by kernel_rfl) (by kernel_rfl) (fun _ _ _ h => False.elim h) ⟨_, rfl, .inl ⟨_, rfl, hc107⟩⟩ rfl ?_
                    refine GA.skip 10 rfl (by kernel_rfl) (by kernel_rfl) (by kernel_rfl) (fun _ _ _ h => False.elim h) ⟨_, rfl, .inl ⟨_, rfl, hc107⟩⟩ rfl ?_
                    refine GA.skip 11 rfl (by kernel_rfl) (by kernel_rfl) (by kernel_rfl) (fun _ _ _ h => False.elim h) ⟨_, rfl, .inl ⟨_, rfl, hc107⟩⟩ rfl ?_
                    refine GA.skip 12 rfl (by kernel_rfl) (by kernel_rfl) (by kernel_rfl) (fun _ _ _ h => False.elim h) ⟨_, rfl, .inl ⟨_, rfl, hc107⟩⟩ rfl ?_
                    refine GA.take 13 rfl (by kernel_rfl) (by kernel_rfl) (by kernel_rfl) (fun _ _ _ h => False.elim h) trivial rfl (OV.pickF (b := x105 == ([] : Str)) (v := .bool false) rfl hc107 rfl) ?_
                    refine GA.take 18 rfl (by kernel_rfl) (by kernel_rfl) (by kernel_rfl) (fun _ _ _ h => False.elim h) trivial rfl (OV.assign (v := .bool false) rfl) ?_
                    refine GA.take 19 rfl (by kernel_rfl) (by kernel_rfl) (by kernel_rfl) (fun _ _ _ h => False.elim h) trivial rfl (OV.assign (v := .bool (decide (((Sl.len x102 : Int) : Int) ≤ 16))) rfl) ?_
                    refine GA.done (by kernel_rfl) ?_
                    exact GL.jump (fun _ _ h => h) (false, (decide (((Sl.len x102 : Int) : Int) ≤ 16))) h ⟨rfl, rfl, rfl, trivial⟩
                · replace h := And.right h hc104
                  refine GA.skip 4 rfl (by kernel_rfl) (by kernel_rfl) (by kernel_rfl) (fun _ _ _ h => False.elim h) ⟨_, rfl, .inl ⟨_, rfl, hc104⟩⟩ rfl ?_
                  refine GA.skip 5 rfl (by kernel_rfl) (by kernel_rfl) (by kernel_rfl) (fun _ _ _ h => False.elim h) ⟨_, rfl, .inl ⟨_, rfl, hc104⟩⟩ rfl ?_
                  refine GA.skip 6 rfl (by kernel_rfl) (by kernel_rfl) (by kernel_rfl) (fun _ _ _ h => False.elim h) ⟨_, rfl, .inl ⟨_, rfl, hc104⟩⟩ rfl ?_
                  refine GA.take 7 rfl (by kernel_rfl) (by kernel_rfl) (by kernel_rfl) (fun _ _ _ h => False.elim h) trivial rfl (OV.pickF (b := (x100 : Int) == 0) (v := .bool false) rfl hc104 rfl) ?_
                  refine GA.take 8 rfl (by kernel_rfl) (by kernel_rfl) (by kernel_rfl) (fun _ _ _ h => False.elim h) trivial rfl (OV.move (v := .bool false) rfl) ?_
                  refine GA.skip 9 rfl (by kernel_rfl) (by kernel_rfl) (by kernel_rfl) (fun _ _ _ h => False.elim h) ⟨_, rfl, .inl ⟨_, rfl, rfl⟩⟩ rfl ?_
                  refine GA.skip 10 rfl (by kernel_rfl) (by kernel_rfl) (by kernel_rfl) (fun _ _ _ h => False.elim h) ⟨_, rfl, .inl ⟨_, rfl, rfl⟩⟩ rfl ?_
                  refine GA.skip 11 rfl (by kernel_rfl) (by kernel_rfl) (by kernel_rfl) (fun _ _ _ h => False.elim h) ⟨_, rfl, .inl ⟨_, rfl, rfl⟩⟩ rfl ?_
                  refine GA.skip 12 rfl (by kernel_rfl) (by kernel_rfl) (by kernel_rfl) (fun _ _ _ h => False.elim h) ⟨_, rfl, .inl ⟨_, rfl, rfl⟩⟩ rfl ?_
                  refine GA.take 13 rfl (by kernel_rfl) (by kernel_rfl) (by kernel_rfl) (fun _ _ _ h => False.elim h) trivial rfl (OV.pickF (b := false) (v := .bool false) rfl rfl rfl) ?_
                  refine GA.take 18 rfl (by kernel_rfl) (by kernel_rfl) (by kernel_rfl) (fun _ _ _ h => False.elim h) trivial rfl (OV.assign (v := .bool false) rfl) ?_
                  refine GA.take 19 rfl (by kernel_rfl) (by kernel_rfl) (by kernel_rfl) (fun _ _ _ h => False.elim h) trivial rfl (OV.assign (v := .bool (decide (((Sl.len x102 : Int) : Int) ≤ 16))) rfl) ?_
                  refine GA.done (by kernel_rfl) ?_
                  exact GL.jump (fun _ _ h => h) (false, (decide (((Sl.len x102 : Int) : Int) ≤ 16))) h ⟨rfl, rfl, rfl, trivial⟩
              · intro x95 H96 h
                replace h := hR97 x95 H96 h
                exact GL.jump (fun _ _ h => h) (x95.1, x95.2) h ⟨rfl, rfl, rfl, trivial⟩
            · replace h := And.right h hc93
              refine GC.seq ?_
              refine GC.region ?_
              refine GL.val trivial rfl (OV.ibin (v := .bool ((x23 : Int) == 6)) rfl rfl rfl) ?_
              refine GL.val trivial rfl (OV.assign (v := .bool ((x23 : Int) == 6)) rfl) ?_
              refine GL.nil ?_
              refine GC.cond (b := (x23 : Int) == 6) rfl (fun hc110 => ?_) (fun hc110 => ?_)
              · replace h := And.left h hc110
                refine GC.seq ?_
                refine GC.region ?_
                refine GL.val trivial rfl (OV.fieldAddr (p := (b1, 0)) rfl rfl) ?_
                obtain ⟨x111, hr112, h⟩ := h
                refine GL.val trivial rfl (OV.load (p := ((b1, 0).1, (b1, 0).2 + 2)) rfl rfl hr112) ?_
                refine GL.call h trivial rfl ok_strings_Cut (vs := [sv x111, sv [46]]) rfl ?_
                rintro _ H116 ⟨r113, r114, r115, rfl, h⟩
                refine GL.val trivial rfl (OV.move (v := .tuple #[sv r113, sv r114, .bool r115]) rfl) ?_
                refine GL.val trivial rfl (OV.extract (v := sv r113) rfl rfl) ?_
                refine GL.val trivial rfl (OV.extract (v := sv r114) rfl rfl) ?_
                refine GL.val trivial rfl (OV.extract (v := .bool r115) rfl rfl) ?_
                refine GL.val trivial rfl (OV.assign (v := sv r113) rfl) ?_
                refine GL.val trivial rfl (OV.assign (v := sv r114) rfl) ?_
                refine GL.val trivial rfl (OV.assign (v := .bool r115) rfl) ?_
                refine GL.nil ?_
                obtain ⟨J117, h, hR120⟩ := h
                refine GC.meet (α := Bool × Bool) J117 (fun x118 => [(2, .bool x118.1), (3, .bool x118.2), (1, pv (some (b1, 0)))]) ?_ ?_
                · skip
                  obtain ⟨Hs121, hle122, h⟩ := h
                  refine GC.any (Hs := Hs121) (by kernel_rfl) hle122 ?_
                  refine GA.take 0 rfl (by kernel_rfl) (by kernel_rfl) (by kernel_rfl) (fun _ _ _ h => False.elim h) trivial rfl (OV.fieldAddr (p := (b1, 0)) rfl rfl) ?_
                  obtain ⟨x123, hr124, h⟩ := h
                  refine GA.take 1 rfl (by kernel_rfl) (by kernel_rfl) (by kernel_rfl) (fun _ _ _ h => False.elim h) trivial rfl (OV.load (p := ((b1, 0).1, (b1, 0).2 + 1)) rfl rfl hr124) ?_
                  refine GA.take 2 rfl (by kernel_rfl) (by kernel_rfl) (by kernel_rfl) (fun _ _ _ h => False.elim h) trivial rfl (OV.ibin (v := .bool ((x123 : Int) == 0)) rfl rfl rfl) ?_
                  refine GA.take 3 rfl (by kernel_rfl) (by kernel_rfl) (by kernel_rfl) (fun _ _ _ h => False.elim h) trivial rfl (OV.move (v := .bool ((x123 : Int) == 0)) rfl) ?_
                  refine GA.take 28 rfl (by kernel_rfl) (by kernel_rfl) (by kernel_rfl) (fun _ _ _ h => False.elim h) trivial rfl (OV.fieldAddr (p := (b1, 0)) rfl rfl) ?_
                  obtain ⟨x125, hr126, h⟩ := h
                  refine GA.take 29 rfl (by kernel_rfl) (by kernel_rfl) (by kernel_rfl) (fun _ _ _ h => False.elim h) trivial rfl (OV.load (p := ((b1, 0).1, (b1, 0).2 + 3)) rfl rfl hr126) ?_
                  refine GA.take 30 rfl (by kernel_rfl) (by kernel_rfl) (by kernel_rfl) (fun _ _ _ h => False.elim h) trivial rfl (OV.lenSl (s := x125) rfl rfl) ?_
                  refine GA.take 31 rfl (by kernel_rfl) (by kernel_rfl) (by kernel_rfl) (fun _ _ _ h => False.elim h) trivial rfl (OV.ibin (v := .bool (decide (((Sl.len x125 : Int) : Int) ≤ 8))) rfl rfl rfl) ?_
                  rcases Bool.eq_false_or_eq_true ((x123 : Int) == 0) with hc127 | hc127
                  · replace h := And.left h hc127
                    refine GA.take 4 rfl (by kernel_rfl) (by kernel_rfl) (by kernel_rfl) (fun _ _ _ h => False.elim h) ⟨_, _, rfl, rfl, hc127⟩ rfl (OV.move (v := sv r113) rfl) ?_
                    refine GA.eff 5 rfl (by kernel_rfl) ?_
                    refine GL.call h ⟨_, _, rfl, rfl, hc127⟩ rfl ok_value_name (vs := [sv r113]) rfl ?_
                    rintro _ H130 ⟨r129, rfl, h⟩
                    obtain ⟨hle128, h⟩ := h
                    refine GA.back hle128 ?_
                    refine GA.take 6 rfl (by kernel_rfl) (by kernel_rfl) (by kernel_rfl) (fun _ _ _ h => False.elim h) trivial rfl (OV.pickT (b := (x123 : Int) == 0) (v := .bool r129) rfl hc127 rfl) ?_
                    refine GA.take 7 rfl (by kernel_rfl) (by kernel_rfl) (by kernel_rfl) (fun _ _ _ h => False.elim h) trivial rfl (OV.move (v := .bool r129) rfl) ?_
                    rcases Bool.eq_false_or_eq_true r129 with hc131 | hc131
                    · replace h := And.left h hc131
                      refine GA.take 8 rfl (by kernel_rfl) (by kernel_rfl) (by kernel_rfl) (fun _ _ _ h => False.elim h) ⟨_, _, rfl, rfl, hc131⟩ rfl (OV.move (v := .bool r115) rfl) ?_
                      refine GA.take 9 rfl (by kernel_rfl) (by kernel_rfl) (by kernel_rfl) (fun _ _ _ h => False.elim h) ⟨_, _, rfl, rfl, hc131⟩ rfl (OV.move (v := .bool r115) rfl) ?_
                      rcases Bool.eq_false_or_eq_true r115 with hc132 | hc132
                      · replace h := And.left h hc132
                        refine GA.take 10 rfl (by kernel_rfl) (by kernel_rfl) (by kernel_rfl) (fun _ _ _ h => False.elim h) ⟨_, _, rfl, rfl, hc132⟩ rfl (OV.move (v := sv r114) rfl) ?_
                        refine GA.eff 11 rfl (by kernel_rfl) ?_
                        refine GL.call h ⟨_, _, rfl, rfl, hc132⟩ rfl ok_value_name (vs := [sv r114]) rfl ?_
                        rintro _ H135 ⟨r134, rfl, h⟩
                        obtain ⟨hle133, h⟩ := h
                        refine GA.back hle133 ?_
                        refine GA.take 12 rfl (by kernel_rfl) (by kernel_rfl) (by kernel_rfl) (fun _ _ _ h => False.elim h) ⟨_, _, rfl, rfl, hc131⟩ rfl (OV.pickT (b := r115) (v := .bool r134) rfl hc132 rfl) ?_
                        refine GA.take 13 rfl (by kernel_rfl) (by kernel_rfl) (by kernel_rfl) (fun _ _ _ h => False.elim h) ⟨_, _, rfl, rfl, hc131⟩ rfl (OV.move (v := .bool r134) rfl) ?_
                        rcases Bool.eq_false_or_eq_true r134 with hc136 | hc136
                        · replace h := And.left h hc136
                          refine GA.skip 14 rfl (by kernel_rfl) (by kernel_rfl) (by kernel_rfl) (fun _ _ _ h => False.elim h) ⟨_, rfl, .inl ⟨_, rfl, hc136⟩⟩ rfl ?_
                          refine GA.skip 15 rfl (by kernel_rfl) (by kernel_rfl) (by kernel_rfl) (fun _ _ _ h => False.elim h) ⟨_, rfl, .inl ⟨_, rfl, hc136⟩⟩ rfl ?_
                          refine GA.skip 16 rfl (by kernel_rfl) (by kernel_rfl) (by kernel_rfl) (fun _ _ _ h => False.elim h) ⟨_, rfl, .inl ⟨_, rfl, hc136⟩⟩ rfl ?_
                          refine GA.skip 17 rfl (by kernel_rfl) (by kernel_rfl) (by kernel_rfl) (fun _ _ _ h => False.elim h) ⟨_, rfl, .inr rfl⟩ rfl ?_
                          refine GA.skip 18 rfl (by kernel_rfl) (by kernel_rfl) (by kernel_rfl) (fun _ _ _ h => False.elim h) ⟨_, rfl, .inr rfl⟩ rfl ?_
                          refine GA.skip 19 rfl (by kernel_rfl) (by kernel_rfl) (by kernel_rfl) (fun _ _ _ h => False.elim h) ⟨_, rfl, .inr rfl⟩ rfl ?_
                          refine GA.skip 20 rfl (by kernel_rfl) (by kernel_rfl) (by kernel_rfl) (fun _ _ _ h => False.elim h) ⟨_, rfl, .inl ⟨_, rfl, hc136⟩⟩ rfl ?_
                          refine GA.skip 21 rfl (by kernel_rfl) (by kernel_rfl) (by kernel_rfl) (fun _ _ _ h => False.elim h) ⟨_, rfl, .inl ⟨_, rfl, hc136⟩⟩ rfl ?_
                          refine GA.skip 22 rfl (by kernel_rfl) (by kernel_rfl) (by kernel_rfl) (fun _ _ _ h => False.elim h) ⟨_, rfl, .inr rfl⟩ rfl ?_
                          refine GA.skip 23 rfl (by kernel_rfl) (by kernel_rfl) (by kernel_rfl) (fun _ _ _ h => False.elim h) ⟨_, rfl, .inr rfl⟩ rfl ?_
                          refine GA.skip 24 rfl (by kernel_rfl) (by kernel_rfl) (by kernel_rfl) (fun _ _ _ h => False.elim h) ⟨_, rfl, .inr rfl⟩ rfl ?_
                          refine GA.skip 25 rfl (by kernel_rfl) (by kernel_rfl) (by kernel_rfl) (fun _ _ _ h => False.elim h) ⟨_, rfl, .inl ⟨_, rfl, hc136⟩⟩ rfl ?_
                          refine GA.take 26 rfl (by kernel_rfl) (by kernel_rfl) (by kernel_rfl) (fun _ _ _ h => False.elim h) ⟨_, _, rfl, rfl, hc131⟩ rfl (OV.pickT (b := r134) (v := .bool true) rfl hc136 rfl) ?_
                          refine GA.take 27 rfl (by kernel_rfl) (by kernel_rfl) (by kernel_rfl) (fun _ _ _ h => False.elim h) trivial rfl (OV.pickT (b := r129) (v := .bool true) rfl hc131 rfl) ?_
                          refine GA.take 32 rfl (by kernel_rfl) (by kernel_rfl) (by kernel_rfl) (fun _ _ _ h => False.elim h) trivial rfl (OV.assign (v := .bool true) rfl) ?_
                          refine GA.take 33 rfl (by kernel_rfl) (by kernel_rfl) (by kernel_rfl) (fun _ _ _ h => False.elim h) trivial rfl (OV.assign (v := .bool (decide (((Sl.len x125 : Int) : Int) ≤ 8))) rfl) ?_
                          refine GA.done (by kernel_rfl) ?_
                          exact GL.jump (fun _ _ h => h) (true, (decide (((Sl.len x125 : Int) : Int) ≤ 8))) h ⟨rfl, rfl, rfl, trivial⟩
                        · replace h := And.right h hc136
                          refine GA.take 14 rfl (by kernel_rfl) (by kernel_rfl) (by kernel_rfl) (fun _ _ _ h => False.elim h) ⟨_, _, rfl, rfl, hc136⟩ rfl (OV.move (v := .bool r115) rfl) ?_
                          refine GA.take 15 rfl (by kernel_rfl) (by kernel_rfl) (by kernel_rfl) (fun _ _ _ h => False.elim h) ⟨_, _, rfl, rfl, hc136⟩ rfl (OV.not rfl) ?_
                          refine GA.take 16 rfl (by kernel_rfl) (by kernel_rfl) (by kernel_rfl) (fun _ _ _ h => False.elim h) ⟨_, _, rfl, rfl, hc136⟩ rfl (OV.move (v := .bool (!r115)) rfl) ?_
                          rcases Bool.eq_false_or_eq_true (!r115) with hc137 | hc137
                          · replace h := And.left h hc137
                            refine GA.take 17 rfl (by kernel_rfl) (by kernel_rfl) (by kernel_rfl) (fun _ _ _ h => False.elim h) ⟨_, _, rfl, rfl, hc137⟩ rfl (OV.fieldAddr (p := (b1, 0)) rfl rfl) ?_
                            obtain ⟨x138, hr139, h⟩ := h
                            refine GA.take 18 rfl (by kernel_rfl) (by kernel_rfl) (by kernel_rfl) (fun _ _ _ h => False.elim h) ⟨_, _, rfl, rfl, hc137⟩ rfl (OV.load (p := ((b1, 0).1, (b1, 0).2 + 2)) rfl rfl hr139) ?_
                            refine GA.take 19 rfl (by kernel_rfl) (by kernel_rfl) (by kernel_rfl) (fun _ _ _ h => False.elim h) ⟨_, _, rfl, rfl, hc137⟩ rfl (OV.sbin (a := x138) (b := ([116, 114, 117, 101] : Str)) (v := .bool (!(x138 == ([116, 114, 117, 101] : Str)))) rfl rfl rfl) ?_
                            refine GA.take 20 rfl (by kernel_rfl) (by kernel_rfl) (by kernel_rfl) (fun _ _ _ h => False.elim h) ⟨_, _, rfl, rfl, hc136⟩ rfl (OV.pickT (b := !r115) (v := .bool (!(x138 == ([116, 114, 117, 101] : Str)))) rfl hc137 rfl) ?_
                            refine GA.take 21 rfl (by kernel_rfl) (by kernel_rfl) (by kernel_rfl) (fun _ _ _ h => False.elim h) ⟨_, _, rfl, rfl, hc136⟩ rfl (OV.move (v := .bool (!(x138 == ([116, 114, 117, 101] : Str)))) rfl) ?_
                            rcases Bool.eq_false_or_eq_true (!(x138 == ([116, 114, 117, 101] : Str))) with hc140 | hc140
                            · replace h := And.left h hc140
                              refine GA.take 22 rfl (by kernel_rfl) (by kernel_rfl) (by kernel_rfl) (fun _ _ _ h => False.elim h) ⟨_, _, rfl, rfl, hc140⟩ rfl (OV.fieldAddr (p := (b1, 0)) rfl rfl) ?_
                              obtain ⟨x141, hr142, h⟩ := h
                              refine GA.take 23 rfl (by kernel_rfl) (by kernel_rfl) (by kernel_rfl) (fun _ _ _ h => False.elim h) ⟨_, _, rfl, rfl, hc140⟩ rfl (OV.load (p := ((b1, 0).1, (b1, 0).2 + 2)) rfl rfl hr142) ?_
                              refine GA.take 24 rfl (by kernel_rfl) (by kernel_rfl) (by kernel_rfl) (fun _ _ _ h => False.elim h) ⟨_, _, rfl, rfl, hc140⟩ rfl (OV.sbin (a := x141) (b := ([102, 97, 108, 115, 101] : Str)) (v := .bool (!(x141 == ([102, 97, 108, 115, 101] : Str)))) rfl rfl rfl) ?_
                              refine GA.take 25 rfl (by kernel_rfl) (by kernel_rfl) (by kernel_rfl) (fun _ _ _ h => False.elim h) ⟨_, _, rfl, rfl, hc136⟩ rfl (OV.pickT (b := !(x138 == ([116, 114, 117, 101] : Str))) (v := .bool (!(x141 == ([102, 97, 108, 115, 101] : Str)))) rfl hc140 rfl) ?_
                              refine GA.take 26 rfl (by kernel_rfl) (by kernel_rfl) (by kernel_rfl) (fun _ _ _ h => False.elim h) ⟨_, _, rfl, rfl, hc131⟩ rfl (OV.pickF (b := r134) (v := .bool (!(x141 == ([102, 97, 108, 115, 101] : Str)))) rfl hc136 rfl) ?_
                              refine GA.take 27 rfl (by kernel_rfl) (by kernel_rfl) (by kernel_rfl) (fun _ _ _ h => False.elim h) trivial rfl (OV.pickT (b := r129) (v := .bool (!(x141 == ([102, 97, 108, 115, 101] : Str)))) rfl hc131 rfl) ?_
                              refine GA.take 32 rfl (by kernel_rfl) (by kernel_rfl) (by kernel_rfl) (fun _ _ _ h => False.elim h) trivial rfl (OV.assign (v := .bool (!(x141 == ([102, 97, 108, 115, 101] : Str)))) rfl) ?_
                              refine GA.take 33 rfl (by kernel_rfl) (by kernel_rfl) (by kernel_rfl) (fun _ _ _ h => False.elim h) trivial rfl (OV.assign (v := .bool (decide (((Sl.len x125 : Int) : Int) ≤ 8))) rfl) ?_
                              refine GA.done (by kernel_rfl) ?_
                              exact GL.jump (fun _ _ h => h) ((!(x141 == ([102, 97, 108, 115, 101] : Str))), (decide (((Sl.len x125 : Int) : Int) ≤ 8))) h ⟨rfl, rfl, rfl, trivial⟩
                            · replace h := And.right h hc140
                              refine GA.skip 22 rfl (by kernel_rfl) (by kernel_rfl) (by kernel_rfl) (fun _ _ _ h => False.elim h) ⟨_, rfl, .inl ⟨_, rfl, hc140⟩⟩ rfl ?_
                              refine GA.skip 23 rfl (by kernel_rfl) (by kernel_rfl) (by kernel_rfl) (fun _ _ _ h => False.elim h) ⟨_, rfl, .inl ⟨_, rfl, hc140⟩⟩ rfl ?_
                              refine GA.skip 24 rfl (by kernel_rfl) (by kernel_rfl) (by kernel_rfl) (fun _ _ _ h => False.elim h) ⟨_, rfl, .inl ⟨_, rfl, hc140⟩⟩ rfl ?_
                              refine GA.take 25 rfl (by kernel_rfl) (by kernel_rfl) (by kernel_rfl) (fun _ _ _ h => False.elim h) ⟨_, _, rfl, rfl, hc136⟩ rfl (OV.pickF (b := !(x138 == ([116, 114, 117, 101] : Str))) (v := .bool false) rfl hc140 rfl) ?_
                              refine GA.take 26 rfl (by kernel_rfl) (by kernel_rfl) (by kernel_rfl) (fun _ _ _ h => False.elim h) ⟨_, _, rfl, rfl, hc131⟩ rfl (OV.pickF (b := r134) (v := .bool false) rfl hc136 rfl) ?_
                              refine GA.take 27 rfl (by kernel_rfl) (by kernel_rfl) (by kernel_rfl) (fun _ _ _ h => False.elim h) trivial rfl (OV.pickT (b := r129) (v := .bool false) rfl hc131 rfl) ?_
                              refine GA.take 32 rfl (by kernel_rfl) (by kernel_rfl) (by kernel_rfl) (fun _ _ _ h => False.elim h) trivial rfl (OV.assign (v := .bool false) rfl) ?_
                              refine GA.take 33 rfl (by kernel_rfl) (by kernel_rfl) (by kernel_rfl) (fun _ _ _ h => False.elim h) trivial rfl (OV.assign (v := .bool (decide (((Sl.len x125 : Int) : Int) ≤ 8))) rfl) ?_
                              refine GA.done (by kernel_rfl) ?_
                              exact GL.jump (fun _ _ h => h) (false, (decide (((Sl.len x125 : Int) : Int) ≤ 8))) h ⟨rfl, rfl, rfl, trivial⟩
                          · replace h := And.right h hc137
                            refine GA.skip 17 rfl (by kernel_rfl) (by kernel_rfl) (by kernel_rfl) (fun _ _ _ h => False.elim h) ⟨_, rfl, .inl ⟨_, rfl, hc137⟩⟩ rfl ?_
                            refine GA.skip 18 rfl (by kernel_rfl) (by kernel_rfl) (by kernel_rfl) (fun _ _ _ h => False.elim h) ⟨_, rfl, .inl ⟨_, rfl, hc137⟩⟩ rfl ?_
                            refine GA.skip 19 rfl (by kernel_rfl) (by kernel_rfl) (by kernel_rfl) (fun _ _ _ h => False.elim h) ⟨_, rfl, .inl ⟨_, rfl, hc137⟩⟩ rfl ?_
                            refine GA.take 20 rfl (by kernel_rfl) (by kernel_rfl) (by kernel_rfl) (fun _ _ _ h => False.elim h) ⟨_, _, rfl, rfl, hc136⟩ rfl (OV.pickF (b := !r115) (v := .bool false) rfl hc137 rfl) ?_
                            refine GA.take 21 rfl (by kernel_rfl) (by kernel_rfl) (by kernel_rfl) (fun _ _ _ h => False.elim h) ⟨_, _, rfl, rfl, hc136⟩ rfl (OV.move (v := .bool false) rfl) ?_
                            refine GA.skip 22 rfl (by kernel_rfl) (by kernel_rfl) (by kernel_rfl) (fun _ _ _ h => False.elim h) ⟨_, rfl, .inl ⟨_, rfl, rfl⟩⟩ rfl ?_
                            refine GA.skip 23 rfl (by kernel_rfl) (by kernel_rfl) (by kernel_rfl) (fun _ _ _ h => False.elim h) ⟨_, rfl, .inl ⟨_, rfl, rfl⟩⟩ rfl ?_
                            refine GA.skip 24 rfl (by kernel_rfl) (by kernel_rfl) (by kernel_rfl) (fun _ _ _ h => False.elim h) ⟨_, rfl, .inl ⟨_, rfl, rfl⟩⟩ rfl ?_
                            refine GA.take 25 rfl (by kernel_rfl) (by kernel_rfl) (by kernel_rfl) (fun _ _ _ h => False.elim h) ⟨_, _, rfl, rfl, hc136⟩ rfl (OV.pickF (b := false) (v := .bool false) rfl rfl rfl) ?_
                            refine GA.take 26 rfl (by kernel_rfl) (by kernel_rfl) (by kernel_rfl) (fun _ _ _ h => False.elim h) ⟨_, _, rfl, rfl, hc131⟩ rfl (OV.pickF (b := r134) (v := .bool false) rfl hc136 rfl) ?_
                            refine GA.take 27 rfl (by kernel_rfl) (by kernel_rfl) (by kernel_rfl) (fun _ _ _ h => False.elim h) trivial rfl (OV.pickT (b := r129) (v := .bool false) rfl hc131 rfl) ?_
                            refine GA.take 32 rfl (by kernel_rfl) (by kernel_rfl) (by kernel_rfl) (fun _ _ _ h => False.elim h) trivial rfl (OV.assign (v := .bool false) rfl) ?_
                            refine GA.take 33 rfl (by kernel_rfl) (by kernel_rfl) (by kernel_rfl) (fun _ _ _ h => False.elim h) trivial rfl (OV.assign (v := .bool (decide (((Sl.len x125 : Int) : Int) ≤ 8))) rfl) ?_
                            refine GA.done (by kernel_rfl) ?_
                            exact GL.jump (fun _ _ h => h) (false, (decide (((Sl.len x125 : Int) : Int) ≤ 8))) h ⟨rfl, rfl, rfl, trivial⟩
                      · replace h := And.right h hc132
                        refine GA.skip 10 rfl (by kernel_rfl) (by kernel_rfl) (by kernel_rfl) (fun _ _ _ h => False.elim h) ⟨_, rfl, .inl ⟨_, rfl, hc132⟩⟩ rfl ?_
                        refine GA.skip 11 rfl (by kernel_rfl) (by kernel_rfl) (by kernel_rfl) (fun _ _ _ h => False.elim h) ⟨_, rfl, .inl ⟨_, rfl, hc132⟩⟩ rfl ?_
                        refine GA.take 12 rfl (by kernel_rfl) (by kernel_rfl) (by kernel_rfl) (fun _ _ _ h => False.elim h) ⟨_, _, rfl, rfl, hc131⟩ rfl (OV.pickF (b := r115) (v := .bool false) rfl hc132 rfl) ?_
                        refine GA.take 13 rfl (by kernel_rfl) (by kernel_rfl) (by kernel_rfl) (fun _ _ _ h => False.elim h) ⟨_, _, rfl, rfl, hc131⟩ rfl (OV.move (v := .bool false) rfl) ?_
                        refine GA.take 14 rfl (by kernel_rfl) (by kernel_rfl) (by kernel_rfl) (fun _ _ _ h => False.elim h) ⟨_, _, rfl, rfl, rfl⟩ rfl (OV.move (v := .bool r115) rfl) ?_
                        refine GA.take 15 rfl (by kernel_rfl) (by kernel_rfl) (by kernel_rfl) (fun _ _ _ h => False.elim h) ⟨_, _, rfl, rfl, rfl⟩ rfl (OV.not rfl) ?_
                        refine GA.take 16 rfl (by kernel_rfl) (by kernel_rfl) (by kernel_rfl) (fun _ _ _ h => False.elim h) ⟨_, _, rfl, rfl, rfl⟩ rfl (OV.move (v := .bool (!r115)) rfl) ?_
                        rcases Bool.eq_false_or_eq_true (!r115) with hc143 | hc143
                        · replace h := And.left h hc143
                          refine GA.take 17 rfl (by kernel_rfl) (by kernel_rfl) (by kernel_rfl) (fun _ _ _ h => False.elim h) ⟨_, _, rfl, rfl, hc143⟩ rfl (OV.fieldAddr (p := (b1, 0)) rfl rfl) ?_
                          obtain ⟨x144, hr145, h⟩ := h
                          refine GA.take 18 rfl (by kernel_rfl) (by kernel_rfl) (by kernel_rfl) (fun _ _ _ h => False.elim h) ⟨_, _, rfl, rfl, hc143⟩ rfl (OV.load (p := ((b1, 0).1, (b1, 0).2 + 2)) rfl rfl hr145) ?_
                          refine GA.take 19 rfl (by kernel_rfl) (by kernel_rfl) (by kernel_rfl) (fun _ _ _ h => False.elim h) ⟨_, _, rfl, rfl, hc143⟩ rfl (OV.sbin (a := x144) (b := ([116, 114, 117, 101] : Str)) (v := .bool (!(x144 == ([116, 114, 117, 101] : Str)))) rfl rfl rfl) ?_
                          refine GA.take 20 rfl (by kernel_rfl) (by kernel_rfl) (by kernel_rfl) (fun _ _ _ h => False.elim h) ⟨_, _, rfl, rfl, rfl⟩ rfl (OV.pickT (b := !r115) (v := .bool (!(x144 == ([116, 114, 117, 101] : Str)))) rfl hc143 rfl) ?_
                          refine GA.take 21 rfl (by kernel_rfl) (by kernel_rfl) (by kernel_rfl) (fun _ _ _ h => False.elim h) ⟨_, _, rfl, rfl, rfl⟩ rfl (OV.move (v := .bool (!(x144 == ([116, 114, 117, 101] : Str)))) rfl) ?_
                          rcases Bool.eq_false_or_eq_true (!(x144 == ([116, 114, 117, 101] : Str))) with hc146 | hc146
                          · replace h := And.left h hc146
                            refine GA.take 22 rfl (by kernel_rfl) (by kernel_rfl) (by kernel_rfl) (fun _ _ _ h => False.elim h) ⟨_, _, rfl, rfl, hc146⟩ rfl (OV.fieldAddr (p := (b1, 0)) rfl rfl) ?_
                            obtain ⟨x147, hr148, h⟩ := h
                            refine GA.take 23 rfl (by kernel_rfl) (by kernel_rfl) (by kernel_rfl) (fun _ _ _ h => False.elim h) ⟨_, _, rfl, rfl, hc146⟩ rfl (OV.load (p := ((b1, 0).1, (b1, 0).2 + 2)) rfl rfl hr148) ?_
                            refine GA.take 24 rfl (by kernel_rfl) (by kernel_rfl) (by kernel_rfl) (fun _ _ _ h => False.elim h) ⟨_, _, rfl, rfl, hc146⟩ rfl (OV.sbin (a := x147) (b := ([102, 97, 108, 115, 101] : Str)) (v := .bool (!(x147 == ([102, 97, 108, 115, 101] : Str)))) rfl rfl rfl) ?_
                            refine GA.take 25 rfl (by kernel_rfl) (by kernel_rfl) (by kernel_rfl) (fun _ _ _ h => False.elim h) ⟨_, _, rfl, rfl, rfl⟩ rfl (OV.pickT (b := !(x144 == ([116, 114, 117, 101] : Str))) (v := .bool (!(x147 == ([102, 97, 108, 115, 101] : Str)))) rfl hc146 rfl) ?_
                            refine GA.take 26 rfl (by kernel_rfl) (by kernel_rfl) (by kernel_rfl) (fun _ _ _ h => False.elim h) ⟨_, _, rfl, rfl, hc131⟩ rfl (OV.pickF (b := false) (v := .bool (!(x147 == ([102, 97, 108, 115, 101] : Str)))) rfl rfl rfl) ?_
                            refine GA.take 27 rfl (by kernel_rfl) (by kernel_rfl) (by kernel_rfl) (fun _ _ _ h => False.elim h) trivial rfl (OV.pickT (b := r129) (v := .bool (!(x147 == ([102, 97, 108, 115, 101] : Str)))) rfl hc131 rfl) ?_
                            refine GA.take 32 rfl (by kernel_rfl) (by kernel_rfl) (by kernel_rfl) (fun _ _ _ h => False.elim h) trivial rfl (OV.assign (v := .bool (!(x147 == ([102, 97, 108, 115, 101] : Str)))) rfl) ?_
                            refine GA.take 33 rfl (by kernel_rfl) (by kernel_rfl) (by kernel_rfl) (fun _ _ _ h => False.elim h) trivial rfl (OV.assign (v := .bool (decide (((Sl.len x125 : Int) : Int) ≤ 8))) rfl) ?_
                            refine GA.done (by kernel_rfl) ?_
                            exact GL.jump (fun _ _ h => h) ((!(x147 == ([102, 97, 108, 115, 101] : Str))), (decide (((Sl.len x125 : Int) : Int) ≤ 8))) h ⟨rfl, rfl, rfl, trivial⟩
                          · replace h := And.right h hc146
                            refine GA.skip 22 rfl (by kernel_rfl) (by kernel_rfl) (by kernel_rfl) (fun _ _ _ h => False.elim h) ⟨_, rfl, .inl ⟨_, rfl, hc146⟩⟩ rfl ?_
                            refine GA.skip 23 rfl (by kernel_rfl) (by kernel_rfl) (by kernel_rfl) (fun _ _ _ h => False.elim h) ⟨_, rfl, .inl ⟨_, rfl, hc146⟩⟩ rfl ?_
                            refine GA.skip 24 rfl (by kernel_rfl) (by kernel_rfl) (by kernel_rfl) (fun _ _ _ h => False.elim h) ⟨_, rfl, .inl ⟨_, rfl, hc146⟩⟩ rfl ?_
                            refine GA.take 25 rfl (by kernel_rfl) (by kernel_rfl) (by kernel_rfl) (fun _ _ _ h => False.elim h) ⟨_, _, rfl, rfl, rfl⟩ rfl (OV.pickF (b := !(x144 == ([116, 114, 117, 101] : Str))) (v := .bool false) rfl hc146 rfl) ?_
                            refine GA.take 26 rfl (by kernel_rfl) (by kernel_rfl) (by kernel_rfl) (fun _ _ _ h => False.elim h) ⟨_, _, rfl, rfl, hc131⟩ rfl (OV.pickF (b := false) (v := .bool false) rfl rfl rfl) ?_
                            refine GA.take 27 rfl (by kernel_rfl) (by kernel_rfl) (by kernel_rfl) (fun _ _ _ h => False.elim h) trivial rfl (OV.pickT (b := r129) (v := .bool false) rfl hc131 rfl) ?_
                            refine GA.take 32 rfl (by kernel_rfl) (by kernel_rfl) (by kernel_rfl) (fun _ _ _ h => False.elim h) trivial rfl (OV.assign (v := .bool false) rfl) ?_
                            refine GA.take 33 rfl (by kernel_rfl) (by kernel_rfl) (by kernel_rfl) (fun _ _ _ h => False.elim h) trivial rfl (OV.assign (v := .bool (decide (((Sl.len x125 : Int) : Int) ≤ 8))) rfl) ?_
                            refine GA.done (by kernel_rfl) ?_
                            exact GL.jump (fun _ _ h => h) (false, (decide (((Sl.len x125 : Int) : Int) ≤ 8))) h ⟨rfl, rfl, rfl, trivial⟩
                        · replace h := And.right h hc143
                          refine GA.skip 17 rfl (by kernel_rfl) (by kernel_rfl) (by kernel_rfl) (fun _ _ _ h => False.elim h) ⟨_, rfl, .inl ⟨_, rfl, hc143⟩⟩ rfl ?_
                          refine GA.skip 18 rfl (by kernel_rfl) (by kernel_rfl) (by kernel_rfl) (fun _ _ _ h => False.elim h) ⟨_, rfl, .inl ⟨_, rfl, hc143⟩⟩ rfl ?_
                          refine GA.skip 19 rfl (by kernel_rfl) (by kernel_rfl) (by kernel_rfl) (fun _ _ _ h => False.elim h) ⟨_, rfl, .inl ⟨_, rfl, hc143⟩⟩ rfl ?_
                          refine GA.take 20 rfl (by kernel_rfl) (by kernel_rfl) (by kernel_rfl) (fun _ _ _ h => False.elim h) ⟨_, _, rfl, rfl, rfl⟩ rfl (OV.pickF (b := !r115) (v := .bool false) rfl hc143 rfl) ?_
                          refine GA.take 21 rfl (by kernel_rfl) (by kernel_rfl) (by kernel_rfl) (fun _ _ _ h => False.elim h) ⟨_, _, rfl, rfl, rfl⟩ rfl (OV.move (v := .bool false) rfl) ?_
                          refine GA.skip 22 rfl (by kernel_rfl) (by kernel_rfl) (by kernel_rfl) (fun _ _ _ h => False.elim h) ⟨_, rfl, .inl ⟨_, rfl, rfl⟩⟩ rfl ?_
                          refine GA.skip 23 rfl (by kernel_rfl) (by kernel_rfl) (by kernel_rfl) (fun _ _ _ h => False.elim h) ⟨_, rfl, .inl ⟨_, rfl, rfl⟩⟩ rfl ?_
                          refine GA.skip 24 rfl (by kernel_rfl) (by kernel_rfl) (by kernel_rfl) (fun _ _ _ h => False.elim h) ⟨_, rfl, .inl ⟨_, rfl, rfl⟩⟩ rfl ?_
                          refine GA.take 25 rfl (by kernel_rfl) (by kernel_rfl) (by kernel_rfl) (fun _ _ _ h => False.elim h) ⟨_, _, rfl, rfl, rfl⟩ rfl (OV.pickF (b := false) (v := .bool false) rfl rfl rfl) ?_
                          refine GA.take 26 rfl (by kernel_rfl) (by kernel_rfl) (by kernel_rfl) (fun _ _ _ h => False.elim h) ⟨_, _, rfl, rfl, hc131⟩ rfl (OV.pickF (b := false) (v := .bool false) rfl rfl rfl) ?_
                          refine GA.take 27 rfl (by kernel_rfl) (by kernel_rfl) (by kernel_rfl) (fun _ _ _ h => False.elim h) trivial rfl (OV.pickT (b := r129) (v := .bool false) rfl hc131 rfl) ?_
                          refine GA.take 32 rfl (by kernel_rfl) (by kernel_rfl) (by kernel_rfl) (fun _ _ _ h => False.elim h) trivial rfl (OV.assign (v := .bool false) rfl) ?_
                          refine GA.take 33 rfl (by kernel_rfl) (by kernel_rfl) (by kernel_rfl) (fun _ _ _ h => False.elim h) trivial rfl (OV.assign (v := .bool (decide (((Sl.len x125 : Int) : Int) ≤ 8))) rfl) ?_
                          refine GA.done (by kernel_rfl) ?_
                          exact GL.jump (fun _ _ h => h) (false, (decide (((Sl.len x125 : Int) : Int) ≤ 8))) h ⟨rfl, rfl, rfl, trivial⟩
                    · replace h := And.right h hc131
                      refine GA.skip 8 rfl (by kernel_rfl) (by kernel_rfl) (by kernel_rfl) (fun _ _ _ h => False.elim h) ⟨_, rfl, .inl ⟨_, rfl, hc131⟩⟩ rfl ?_
                      refine GA.skip 9 rfl (by kernel_rfl) (by kernel_rfl) (by kernel_rfl) (fun _ _ _ h => False.elim h) ⟨_, rfl, .inl ⟨_, rfl, hc131⟩⟩ rfl ?_
                      refine GA.skip 10 rfl (by kernel_rfl) (by kernel_rfl) (by kernel_rfl) (fun _ _ _ h => False.elim h) ⟨_, rfl, .inr rfl⟩ rfl ?_
                      refine GA.skip 11 rfl (by kernel_rfl) (by kernel_rfl) (by kernel_rfl) (fun _ _ _ h => False.elim h) ⟨_, rfl, .inr rfl⟩ rfl ?_
                      refine GA.skip 12 rfl (by kernel_rfl) (by kernel_rfl) (by kernel_rfl) (fun _ _ _ h => False.elim h) ⟨_, rfl, .inl ⟨_, rfl, hc131⟩⟩ rfl ?_
                      refine GA.skip 13 rfl (by kernel_rfl) (by kernel_rfl) (by kernel_rfl) (fun _ _ _ h => False.elim h) ⟨_, rfl, .inl ⟨_, rfl, hc131⟩⟩ rfl ?_
                      refine GA.skip 14 rfl (by kernel_rfl) (by kernel_rfl) (by kernel_rfl) (fun _ _ _ h => False.elim h) ⟨_, rfl, .inr rfl⟩ rfl ?_
                      refine GA.skip 15 rfl (by kernel_rfl) (by kernel_rfl) (by kernel_rfl) (fun _ _ _ h => False.elim h) ⟨_, rfl, .inr rfl⟩ rfl ?_
                      refine GA.skip 16 rfl (by kernel_rfl) (by kernel_rfl) (by kernel_rfl) (fun _ _ _ h => False.elim h) ⟨_, rfl, .inr rfl⟩ rfl ?_
                      refine GA.skip 17 rfl (by kernel_rfl) (by kernel_rfl) (by kernel_rfl) (fun _ _ _ h => False.elim h) ⟨_, rfl, .inr rfl⟩ rfl ?_
                      refine GA.skip 18 rfl (by kernel_rfl) (by kernel_rfl) (by kernel_rfl) (fun _ _ _ h => False.elim h) ⟨_, rfl, .inr rfl⟩ rfl ?_
                      refine GA.skip 19 rfl (by kernel_rfl) (by kernel_rfl) (by kernel_rfl) (fun _ _ _ h => False.elim h) ⟨_, rfl, .inr rfl⟩ rfl ?_
                      refine GA.skip 20 rfl (by kernel_rfl) (by kernel_rfl) (by kernel_rfl) (fun _ _ _ h => False.elim h) ⟨_, rfl, .inr rfl⟩ rfl ?_
                      refine GA.skip 21 rfl (by kernel_rfl) (by kernel_rfl) (by kernel_rfl) (fun _ _ _ h => False.elim h) ⟨_, rfl, .inr rfl⟩ rfl ?_
                      refine GA.skip 22 rfl (by kernel_rfl) (by kernel_rfl) (by kernel_rfl) (fun _ _ _ h => False.elim h) ⟨_, rfl, .inr rfl⟩ rfl ?_
                      refine GA.skip 23 rfl (by kernel_rfl) (by kernel_rfl) (by kernel_rfl) (fun _ _ _ h => False.elim h) ⟨_, rfl, .inr rfl⟩ rfl ?_
                      refine GA.skip 24 rfl (by kernel_rfl) (by kernel_rfl) (by kernel_rfl) (fun _ _ _ h => False.elim h) ⟨_, rfl, .inr rfl⟩ rfl ?_
                      refine GA.skip 25 rfl (by kernel_rfl) (by kernel_rfl) (by kernel_rfl) (fun _ _ _ h => False.elim h) ⟨_, rfl, .inr rfl⟩ rfl ?_
                      refine GA.skip 26 rfl (by kernel_rfl) (by kernel_rfl) (by kernel_rfl) (fun _ _ _ h => False.elim h) ⟨_, rfl, .inl ⟨_, rfl, hc131⟩⟩ rfl ?_
                      refine GA.take 27 rfl (by kernel_rfl) (by kernel_rfl) (by kernel_rfl) (fun _ _ _ h => False.elim h) trivial rfl (OV.pickF (b := r129) (v := .bool false) rfl hc131 rfl) ?_
                      refine GA.take 32 rfl (by kernel_rfl) (by kernel_rfl) (by kernel_rfl) (fun _ _ _ h => False.elim h) trivial rfl (OV.assign (v := .bool false) rfl) ?_
                      refine GA.take 33 rfl (by kernel_rfl) (by kernel_rfl) (by kernel_rfl) (fun _ _ _ h => False.elim h) trivial rfl (OV.assign (v := .bool (decide (((Sl.len x125 : Int) : Int) ≤ 8))) rfl) ?_
                      refine GA.done (by kernel_rfl) ?_
                      exact GL.jump (fun _ _ h => h) (false, (decide (((Sl.len x125 : Int) : Int) ≤ 8))) h ⟨rfl, rfl, rfl, trivial⟩
                  · replace h := And.right h hc127
                    refine GA.skip 4 rfl (by kernel_rfl) (by kernel_rfl) (by kernel_rfl) (fun _ _ _ h => False.elim h) ⟨_, rfl, .inl ⟨_, rfl, hc127⟩⟩ rfl ?_
                    refine GA.skip 5 rfl (by kernel_rfl) (by kernel_rfl) (by kernel_rfl) (fun _ _ _ h => False.elim h) ⟨_, rfl, .inl ⟨_, rfl, hc127⟩⟩ rfl ?_
                    refine GA.take 6 rfl (by kernel_rfl) (by kernel_rfl) (by kernel_rfl) (fun _ _ _ h => False.elim h) trivial rfl (OV.pickF (b := (x123 : Int) == 0) (v := .bool false) rfl hc127 rfl) ?_
                    refine GA.take 7 rfl (by kernel_rfl) (by kernel_rfl) (by kernel_rfl) (fun _ _ _ h => False.elim h) trivial rfl (OV.move (v := .bool false) rfl) ?_
                    refine GA.skip 8 rfl (by kernel_rfl) (by kernel_rfl) (by kernel_rfl) (fun _ _ _ h => False.elim h) ⟨_, rfl, .inl ⟨_, rfl, rfl⟩⟩ rfl ?_
                    refine GA.skip 9 rfl (by kernel_rfl) (by kernel_rfl) (by kernel_rfl) (fun _ _ _ h => False.elim h) ⟨_, rfl, .inl ⟨_, rfl, rfl⟩⟩ rfl ?_
                    refine GA.skip 10 rfl (by kernel_rfl) (by kernel_rfl) (by kernel_rfl) (fun _ _ _ h => False.elim h) ⟨_, rfl, .inr rfl⟩ rfl ?_
                    refine GA.skip 11 rfl (by kernel_rfl) (by kernel_rfl) (by kernel_rfl) (fun _ _ _ h => False.elim h) ⟨_, rfl, .inr rfl⟩ rfl ?_
                    refine GA.skip 12 rfl (by kernel_rfl) (by kernel_rfl) (by kernel_rfl) (fun _ _ _ h => False.elim h) ⟨_, rfl, .inl ⟨_, rfl, rfl⟩⟩ rfl ?_
                    refine GA.skip 13 rfl (by kernel_rfl) (by kernel_rfl) (by kernel_rfl) (fun _ _ _ h => False.elim h) ⟨_, rfl, .inl ⟨_, rfl, rfl⟩⟩ rfl ?_
                    refine GA.skip 14 rfl (by kernel_rfl) (by kernel_rfl) (by kernel_rfl) (fun _ _ _ h => False.elim h) ⟨_, rfl, .inr rfl⟩ rfl ?_
                    refine GA.skip 15 rfl (by kernel_rfl) (by kernel_rfl) (by kernel_rfl) (fun _ _ _ h => False.elim h) ⟨_, rfl, .inr rfl⟩ rfl ?_
                    refine GA.skip 16 rfl (by kernel_rfl) (by kernel_rfl) (by kernel_rfl) (fun _ _ _ h => False.elim h) ⟨_, rfl, .inr rfl⟩ rfl ?_
                    refine GA.skip 17 rfl (by kernel_rfl) (by kernel_rfl) (by kernel_rfl) (fun _ _ _ h => False.elim h) ⟨_, rfl, .inr rfl⟩ rfl ?_
                    refine GA.skip 18 rfl (by kernel_rfl) (by kernel_rfl) (by kernel_rfl) (fun _ _ _ h => False.elim h) ⟨_, rfl, .inr rfl⟩ rfl ?_
                    refine GA.skip 19 rfl (by kernel_rfl) (by kernel_rfl) (by kernel_rfl) (fun _ _ _ h => False.elim h) ⟨_, rfl, .inr rfl⟩ rfl ?_
                    refine GA.skip 20 rfl (by kernel_rfl) (by kernel_rfl) (by kernel_rfl) (fun _ _ _ h => False.elim h) ⟨_, rfl, .inr rfl⟩ rfl ?_
                    refine GA.skip 21 rfl (by kernel_rfl) (by kernel_rfl) (by kernel_rfl) (fun _ _ _ h => False.elim h) ⟨_, rfl, .inr rfl⟩ rfl ?_
                    refine GA.skip 22 rfl (by kernel_rfl) (by kernel_rfl) (by kernel_rfl) (fun _ _ _ h => False.elim h) ⟨_, rfl, .inr rfl⟩ rfl ?_
                    refine GA.skip 23 rfl (by kernel_rfl) (by kernel_rfl) (by kernel_rfl) (fun _ _ _ h => False.elim h) ⟨_, rfl, .inr rfl⟩ rfl ?_
                    refine GA.skip 24 rfl (by kernel_rfl) (by kernel_rfl) (by kernel_rfl) (fun _ _ _ h => False.elim h) ⟨_, rfl, .inr rfl⟩ rfl ?_
                    refine GA.skip 25 rfl (by kernel_rfl) (by kernel_rfl) (by kernel_rfl) (fun _ _ _ h => False.elim h) ⟨_, rfl, .inr rfl⟩ rfl ?_
                    refine GA.skip 26 rfl (by kernel_rfl) (by kernel_rfl) (by kernel_rfl) (fun _ _ _ h => False.elim h) ⟨_, rfl, .inl ⟨_, rfl, rfl⟩⟩ rfl ?_
                    refine GA.take 27 rfl (by kernel_rfl) (by kernel_rfl) (by kernel_rfl) (fun _ _ _ h => False.elim h) trivial rfl (OV.pickF (b := false) (v := .bool false) rfl rfl rfl) ?_
                    refine GA.take 32 rfl (by kernel_rfl) (by kernel_rfl) (by kernel_rfl) (fun _ _ _ h => False.elim h) trivial rfl (OV.assign (v := .bool false) rfl) ?_
                    refine GA.take 33 rfl (by kernel_rfl) (by kernel_rfl) (by kernel_rfl) (fun _ _ _ h => False.elim h) trivial rfl (OV.assign (v := .bool (decide (((Sl.len x125 : Int) : Int) ≤ 8))) rfl) ?_
                    refine GA.done (by kernel_rfl) ?_
                    exact GL.jump (fun _ _ h => h) (false, (decide (((Sl.len x125 : Int) : Int) ≤ 8))) h ⟨rfl, rfl, rfl, trivial⟩
                · intro x118 H119 h
                  replace h := hR120 x118 H119 h
                  exact GL.jump (fun _ _ h => h) (x118.1, x118.2) h ⟨rfl, rfl, rfl, trivial⟩
              · replace h := And.right h hc110
                refine GC.region ?_
                refine GL.val trivial rfl (OV.assign (v := .bool false) rfl) ?_
                exact GL.jump (fun _ _ h => h) (false, true) h ⟨rfl, rfl, rfl, trivial⟩
  · intro x20 H21 h
    replace h := hR22 x20 H21 h
    refine GC.seq ?_
    refine GC.seq ?_
    refine GC.region ?_
    refine GL.val trivial rfl (OV.fieldAddr (p := (b1, 0)) rfl rfl) ?_
    obtain ⟨x149, hr150, h⟩ := h
    refine GL.val trivial rfl (OV.load (p := ((b1, 0).1, (b1, 0).2 + 3)) rfl rfl hr150) ?_
    refine GL.val trivial rfl (OV.lenSl (s := x149) rfl rfl) ?_
    refine GL.val trivial rfl (OV.move (v := .int .i64 0) rfl) ?_
    refine GL.nil ?_
    refine GC.block ?_
    refine GC.loop (α := Bool × Bool × Int) h (fun x151 => [(2, .bool x151.1), (3, .bool x151.2.1), (162, .int .i64 x151.2.2), (160, slv x149), (161, .int .i64 (Sl.len x149 : Int))]) ⟨rfl, rfl, rfl, rfl, rfl, trivial⟩ ?_
    intro x151 H153 J152 h
    refine GC.seq ?_
    refine GC.region ?_
    refine GL.val trivial rfl (OV.ibin (v := .bool (decide ((x151.2.2 : Int) < (Sl.len x149 : Int)))) rfl rfl rfl) ?_
    refine GL.nil ?_
    refine GC.seq ?_
    refine GC.cond (b := decide ((x151.2.2 : Int) < (Sl.len x149 : Int))) rfl (fun hc154 => ?_) (fun hc154 => ?_)
    · replace h := And.left h hc154
      refine GC.skip ?_
      refine GC.seq ?_
      refine GC.block ?_
      refine GC.seq ?_
      refine GC.region ?_
      obtain ⟨p155, ha156, hb157, hc158, hd159, h⟩ := h
      refine GL.val trivial rfl (OV.indexAddr (s := x149) rfl rfl rfl rfl ha156 hb157 hc158 hd159) ?_
      obtain ⟨x160, hr161, h⟩ := h
      refine GL.val trivial rfl (OV.loadT (p := (p155.1, p155.2 + (x151.2.2 : Int).toNat * 4)) (cs := T_api_Value.c x160) rfl rfl rfl hr161) ?_
      refine GL.alloc (cs := T_api_Value.c T_api_Value.zero) h trivial rfl rfl rfl ?_
      intro b162 H163 h
      refine GL.storeT (p := (b162, 0)) (vs := T_api_Value.c x160) h trivial rfl rfl rfl rfl ?_
      intro H164 h
      refine GL.nil ?_
      refine GC.seq ?_
      refine GC.region ?_
      obtain ⟨x165, hr166, h⟩ := h
      refine GL.val trivial rfl (OV.loadT (p := (b162, 0)) (cs := T_api_Value.c x165) rfl rfl rfl hr166) ?_
      refine GL.call h trivial rfl ok_value_item_look (vs := [.agg (T_api_Value.c x165).toArray]) rfl ?_
      rintro _ H169 ⟨r167, r168, rfl, h⟩
      refine GL.val trivial rfl (OV.move (v := .tuple #[.bool r167, .bool r168]) rfl) ?_
      refine GL.val trivial rfl (OV.extract (v := .bool r167) rfl rfl) ?_
      refine GL.val trivial rfl (OV.extract (v := .bool r168) rfl rfl) ?_
      refine GL.val trivial rfl (OV.assign (v := .bool r167) rfl) ?_
      refine GL.val trivial rfl (OV.assign (v := .bool r168) rfl) ?_
      refine GL.nil ?_
      refine GC.region ?_
      refine GL.val trivial rfl (OV.move (v := .bool x151.1) rfl) ?_
      refine GL.val trivial rfl (OV.move (v := .bool x151.1) rfl) ?_
      refine GL.cut0 2 [(174, .bool (x151.1 && r167)), (3, .bool x151.2.1), (12, .bool r168), (160, slv x149), (161, .int .i64 (Sl.len x149 : Int)), (162, .int .i64 x151.2.2)] ?_ ?_
      · rcases Bool.eq_false_or_eq_true x151.1 with hc170 | hc170
        · skip
          refine GL.val ⟨_, _, rfl, rfl, hc170⟩ rfl (OV.move (v := .bool r167) rfl) ?_
          refine GL.val trivial rfl (OV.pickT (b := x151.1) (v := .bool r167) rfl hc170 rfl) ?_
          exact GL.jump0 (fun _ _ h => h) () rfl ⟨(by rw [hc170]; rfl), rfl, rfl, rfl, rfl, rfl, trivial⟩
        · skip
          refine GL.skip ⟨_, rfl, .inl ⟨_, rfl, hc170⟩⟩ rfl ?_
          refine GL.val trivial rfl (OV.pickF (b := x151.1) (v := .bool false) rfl hc170 rfl) ?_
          exact GL.jump0 (fun _ _ h => h) () rfl ⟨(by rw [hc170]; rfl), rfl, rfl, rfl, rfl, rfl, trivial⟩
      refine GL.val trivial rfl (OV.move (v := .bool x151.2.1) rfl) ?_
      refine GL.val trivial rfl (OV.move (v := .bool x151.2.1) rfl) ?_
      refine GL.cut0 2 [(178, .bool (x151.2.1 && r168)), (160, slv x149), (161, .int .i64 (Sl.len x149 : Int)), (162, .int .i64 x151.2.2), (174, .bool (x151.1 && r167))] ?_ ?_
      · rcases Bool.eq_false_or_eq_true x151.2.1 with hc171 | hc171
        · skip
          refine GL.val ⟨_, _, rfl, rfl, hc171⟩ rfl (OV.move (v := .bool r168) rfl) ?_
          refine GL.val trivial rfl (OV.pickT (b := x151.2.1) (v := .bool r168) rfl hc171 rfl) ?_
          exact GL.jump0 (fun _ _ h => h) () rfl ⟨(by rw [hc171]; rfl), rfl, rfl, rfl, rfl, trivial⟩
        · skip
          refine GL.skip ⟨_, rfl, .inl ⟨_, rfl, hc171⟩⟩ rfl ?_
          refine GL.val trivial rfl (OV.pickF (b := x151.2.1) (v := .bool false) rfl hc171 rfl) ?_
          exact GL.jump0 (fun _ _ h => h) () rfl ⟨(by rw [hc171]; rfl), rfl, rfl, rfl, rfl, trivial⟩
      refine GL.val trivial rfl (OV.assign (v := .bool (x151.1 && r167)) rfl) ?_
      refine GL.val trivial rfl (OV.assign (v := .bool (x151.2.1 && r168)) rfl) ?_
      refine GL.nil_to (fun _ _ h => h) ?_
      refine GC.region ?_
      refine GL.val trivial rfl (OV.ibin (v := .int .i64 (w .i64 (x151.2.2 + 1))) rfl rfl rfl) ?_
      refine GL.val trivial rfl (OV.move (v := .int .i64 (w .i64 (x151.2.2 + 1))) rfl) ?_
      exact GL.jump (fun _ _ h => h) ((x151.1 && r167), (x151.2.1 && r168), (w .i64 (x151.2.2 + 1))) h ⟨rfl, rfl, rfl, rfl, rfl, trivial⟩
    · replace h := And.right h hc154
      refine GC.exit_to (fun _ _ h => h) ?_
      refine GC.seq ?_
      refine GC.region ?_
      refine GL.val trivial rfl (OV.move (v := .bool x151.1) rfl) ?_
      refine GL.val trivial rfl (OV.move (v := .bool x151.2.1) rfl) ?_
      refine GL.val trivial rfl (OV.assign (v := .bool x151.1) rfl) ?_
      refine GL.val trivial rfl (OV.assign (v := .bool x151.2.1) rfl) ?_
      refine GL.nil ?_
      exact GC.ret (fun _ _ hf hs => post_tmp2 rfl rfl rfl hf hs ⟨x151.1, x151.2.1, rfl, h⟩)

def sh_code_Reader_truth (C : Ctx) (p_r : Option (Nat × Nat)) (p_v : Option (Nat × Nat)) (p_deep : Int) (K : Heap → Prop) (H : Heap) : Prop :=
  c_code_Reader_Flag C p_r (fun r1 H2 =>
 ift r1
 (nck p_v fun p4 =>
 st (p4.1, p4.2 + 1) (.int .i64 1) (fun H6 =>
 K H6) H2)
 (K H2)) H

theorem ad_code_Reader_truth (C : Ctx) (p_r : Option (Nat × Nat)) (p_v : Option (Nat × Nat)) (p_deep : Int) (K : Heap → Prop) (H : Heap) (h : sh_code_Reader_truth C p_r p_v p_deep K H) : c_code_Reader_truth C p_r p_v p_deep K H := by
  refine Spec.enter Tryd.func85 rfl Tryd.ntmps85 rfl ?_
  refine GC.sub [(0, pv p_r), (1, pv p_v), (2, .int .i64 p_deep)] ⟨rfl, rfl, rfl, trivial⟩ ?_
  refine GC.seq ?_
  refine GC.region ?_
  refine GL.val trivial rfl (OV.move (v := pv p_r) rfl) ?_
  refine GL.call h trivial rfl ok_code_Reader_Flag (vs := [pv p_r]) rfl ?_
  rintro _ H2 ⟨r1, rfl, h⟩
  refine GL.nil ?_
  refine GC.cond (b := r1) rfl (fun hc3 => ?_) (fun hc3 => ?_)
  · replace h := And.left h hc3
    refine GC.region ?_
    refine GL.val trivial rfl (OV.move (v := pv p_v) rfl) ?_
    obtain ⟨p4, hp5, h⟩ := h
    refine GL.val trivial rfl (OV.nilCheck (q := p_v) rfl hp5) ?_
    refine GL.val trivial rfl (OV.fieldAddr (p := p4) rfl rfl) ?_
    refine GL.store (p := (p4.1, p4.2 + 1)) (v := .int .i64 1) h trivial rfl rfl rfl rfl ?_
    intro H6 h
    exact GL.ends (fun _ _ hf hs => post_tmp0 rfl hf hs ⟨rfl, h⟩)
  · replace h := And.right h hc3
    exact GC.ends (fun _ _ hf hs => post_tmp0 rfl hf hs ⟨rfl, h⟩)

def sh_code_Reader_whole (C : Ctx) (p_r : Option (Nat × Nat)) (p_v : Option (Nat × Nat)) (p_deep : Int) (K : Heap → Prop) (H : Heap) : Prop :=
  c_code_Reader_Num C p_r (fun r1 H2 =>
 nck p_v fun p3 =>
 st (p3.1, p3.2 + 1) (.int .i64 r1) (fun H5 =>
 K H5) H2) H

theorem ad_code_Reader_whole (C : Ctx) (p_r : Option (Nat × Nat)) (p_v : Option (Nat × Nat)) (p_deep : Int) (K : Heap → Prop) (H : Heap) (h : sh_code_Reader_whole C p_r p_v p_deep K H) : c_code_Reader_whole C p_r p_v p_deep K H := by
  refine Spec.enter Tryd.func86 rfl Tryd.ntmps86 rfl ?_
  refine GC.sub [(0, pv p_r), (1, pv p_v), (2, .int .i64 p_deep)] ⟨rfl, rfl, rfl, trivial⟩ ?_
  refine GC.region ?_
  refine GL.val trivial rfl (OV.move (v := pv p_v) rfl) ?_
  refine GL.val trivial rfl (OV.move (v := pv p_r) rfl) ?_
  refine GL.call h trivial rfl ok_code_Reader_Num (vs := [pv p_r]) rfl ?_
  rintro _ H2 ⟨r1, rfl, h⟩
  obtain ⟨p3, hp4, h⟩ := h
  refine GL.val trivial rfl (OV.nilCheck (q := p_v) rfl hp4) ?_
  refine GL.val trivial rfl (OV.fieldAddr (p := p3) rfl rfl) ?_
  refine GL.store (p := (p3.1, p3.2 + 1)) (v := .int .i64 r1) h trivial rfl rfl rfl rfl ?_
  intro H5 h
  exact GL.ends (fun _ _ hf hs => post_tmp0 rfl hf hs ⟨rfl, h⟩)

def sh_code_Reader_big (C : Ctx) (p_r : Option (Nat × Nat)) (p_v : Option (Nat × Nat)) (p_deep : Int) (K : Heap → Prop) (H : Heap) : Prop :=
  c_code_Reader_next C p_r (fun r1 H2 =>
 c_code_Reader_ask C p_r (((r1 : Int) == 127) || ((r1 : Int) == 128)) (fun r4 H5 =>
 jn (α := Unit) (fun x7 H8 =>
 c_code_Reader_flip C p_r ((r1 : Int) == 127) (fun H14 =>
 c_code_Reader_Count C p_r 200 (fun r15 H16 =>
 lp (α := Sl × Int) (Sl.nil, 0) H16 (fun x17 J18 H19 =>
 ift (decide ((x17.2 : Int) < r15))
 (c_code_Reader_next C p_r (fun r21 H22 =>
 apd ([.int .u8 0]) 1 x17.1 ([.int .u8 r21]) 1 (fun r23 H24 =>
 J18 (r23, (w .i64 (x17.2 + 1))) H24) H22) H19)
 (c_code_Reader_flip C p_r ((r1 : Int) == 127) (fun H25 =>
 dr H25 fun Hs26 =>
 nck p_v fun p28 =>
 ldS Hs26 (p28.1, p28.2 + 2) fun x30 =>
 b2s x17.1 (fun t32 =>
 catOk x30 t32 ∧
 nck p_v fun p36 =>
 st (p36.1, p36.2 + 2) (sv (x30 ++ t32)) (fun H38 =>
 K H38) H25) Hs26) H19))) H14) H8)
 (fun J6 => ift ((r1 : Int) == 127)
 (nck p_v fun p11 =>
 st (p11.1, p11.2 + 2) (sv [45]) (fun H13 =>
 J6 () H13) H5)
 (J6 () H5))) H2) H

theorem ad_code_Reader_big (C : Ctx) (p_r : Option (Nat × Nat)) (p_v : Option (Nat × Nat)) (p_deep : Int) (K : Heap → Prop) (H : Heap) (h : sh_code_Reader_big C p_r p_v p_deep K H) : c_code_Reader_big C p_r p_v p_deep K H := by
  refine Spec.enter Tryd.func87 rfl Tryd.ntmps87 rfl ?_
  refine GC.sub [(0, pv p_r), (1, pv p_v), (2, .int .i64 p_deep)] ⟨rfl, rfl, rfl, trivial⟩ ?_
  refine GC.seq ?_
  refine GC.region ?_
  refine GL.val trivial rfl (OV.move (v := pv p_r) rfl) ?_
  refine GL.call h trivial rfl ok_code_Reader_next (vs := [pv p_r]) rfl ?_
  rintro _ H2 ⟨r1, rfl, h⟩
  refine GL.val trivial rfl (OV.assign (v := .int .u8 r1) rfl) ?_
  refine GL.nil ?_
  refine GC.seq ?_
  refine GC.region ?_
  refine GL.val trivial rfl (OV.move (v := .int .u8 r1) rfl) ?_
  refine GL.val trivial rfl (OV.ibin (v := .bool ((r1 : Int) == 127)) rfl rfl rfl) ?_
  refine GL.val trivial rfl (OV.assign (v := .bool ((r1 : Int) == 127)) rfl) ?_
  refine GL.nil ?_
  refine GC.seq ?_
  refine GC.region ?_
  refine GL.val trivial rfl (OV.move (v := pv p_r) rfl) ?_
  refine GL.val trivial rfl (OV.move (v := .bool ((r1 : Int) == 127)) rfl) ?_
  refine GL.val trivial rfl (OV.move (v := .bool ((r1 : Int) == 127)) rfl) ?_
  refine GL.cut0 3 [(18, .bool (((r1 : Int) == 127) || ((r1 : Int) == 128))), (0, pv p_r), (1, pv p_v), (7, .bool ((r1 : Int) == 127)), (13, pv p_r)] ?_ ?_
  · rcases Bool.eq_false_or_eq_true ((r1 : Int) == 127) with hc3 | hc3
    · skip
      refine GL.skip ⟨_, rfl, .inl ⟨_, rfl, hc3⟩⟩ rfl ?_
      refine GL.skip ⟨_, rfl, .inl ⟨_, rfl, hc3⟩⟩ rfl ?_
      refine GL.val trivial rfl (OV.pickT (b := (r1 : Int) == 127) (v := .bool true) rfl hc3 rfl) ?_
      exact GL.jump0 (fun _ _ h => h) () rfl ⟨(by rw [hc3]; rfl), rfl, rfl, rfl, rfl, trivial⟩
    · skip
      refine GL.val ⟨_, _, rfl, rfl, hc3⟩ rfl (OV.move (v := .int .u8 r1) rfl) ?_
      refine GL.val ⟨_, _, rfl, rfl, hc3⟩ rfl (OV.ibin (v := .bool ((r1 : Int) == 128)) rfl rfl rfl) ?_
      refine GL.val trivial rfl (OV.pickF (b := (r1 : Int) == 127) (v := .bool ((r1 : Int) == 128)) rfl hc3 rfl) ?_
      exact GL.jump0 (fun _ _ h => h) () rfl ⟨(by rw [hc3]; rfl), rfl, rfl, rfl, rfl, trivial⟩
  refine GL.call h trivial rfl ok_code_Reader_ask (vs := [pv p_r, .bool (((r1 : Int) == 127) || ((r1 : Int) == 128))]) rfl ?_
  rintro _ H5 ⟨r4, rfl, h⟩
  refine GL.nil ?_
  obtain ⟨J6, h, hR9⟩ := h
  refine GC.join (α := Unit) J6 (fun _ => [(0, pv p_r), (1, pv p_v), (7, .bool ((r1 : Int) == 127))]) ?_ ?_
  · skip
    refine GC.seq ?_
    refine GC.region ?_
    refine GL.val trivial rfl (OV.move (v := .bool ((r1 : Int) == 127)) rfl) ?_
    refine GL.nil ?_
    refine GC.cond (b := (r1 : Int) == 127) rfl (fun hc10 => ?_) (fun hc10 => ?_)
    · replace h := And.left h hc10
      refine GC.region ?_
      refine GL.val trivial rfl (OV.move (v := pv p_v) rfl) ?_
      obtain ⟨p11, hp12, h⟩ := h
      refine GL.val trivial rfl (OV.nilCheck (q := p_v) rfl hp12) ?_
      refine GL.val trivial rfl (OV.fieldAddr (p := p11) rfl rfl) ?_
      refine GL.store (p := (p11.1, p11.2 + 2)) (v := sv [45]) h trivial rfl rfl rfl rfl ?_
      intro H13 h
      exact GL.jump (fun _ _ h => h) () h ⟨rfl, rfl, rfl, trivial⟩
    · replace h := And.right h hc10
      exact GC.jump (fun _ _ h => h) () h ⟨rfl, rfl, rfl, trivial⟩
  · intro x7 H8 h
    replace h := hR9 x7 H8 h
    refine GC.seq ?_
    refine GC.region ?_
    refine GL.val trivial rfl (OV.move (v := pv p_r) rfl) ?_
    refine GL.val trivial rfl (OV.move (v := .bool ((r1 : Int) == 127)) rfl) ?_
    refine GL.call h trivial rfl ok_code_Reader_flip (vs := [pv p_r, .bool ((r1 : Int) == 127)]) rfl ?_
    rintro _ H14 ⟨rfl, h⟩
    refine GL.nil ?_
    refine GC.seq ?_
    refine GC.region ?_
    refine GL.val trivial rfl (OV.assign (v := slv Sl.nil) rfl) ?_
    refine GL.nil ?_
    refine GC.seq ?_
    refine GC.seq ?_
    refine GC.region ?_
    refine GL.val trivial rfl (OV.move (v := pv p_r) rfl) ?_
    refine GL.call h trivial rfl ok_code_Reader_Count (vs := [pv p_r, .int .i64 200]) rfl ?_
    rintro _ H16 ⟨r15, rfl, h⟩
    refine GL.val trivial rfl (OV.move (v := .int .i64 0) rfl) ?_
    refine GL.nil ?_
    refine GC.block ?_
    refine GC.loop (α := Sl × Int) h (fun x17 => [(8, slv x17.1), (29, .int .i64 x17.2), (0, pv p_r), (1, pv p_v), (7, .bool ((r1 : Int) == 127)), (28, .int .i64 r15)]) ⟨rfl, rfl, rfl, rfl, rfl, rfl, trivial⟩ ?_
    intro x17 H19 J18 h
    refine GC.seq ?_
    refine GC.region ?_
    refine GL.val trivial rfl (OV.ibin (v := .bool (decide ((x17.2 : Int) < r15))) rfl rfl rfl) ?_
    refine GL.nil ?_
    refine GC.seq ?_
    refine GC.cond (b := decide ((x17.2 : Int) < r15)) rfl (fun hc20 => ?_) (fun hc20 => ?_)
    · replace h := And.left h hc20
      refine GC.skip ?_
      refine GC.seq ?_
      refine GC.block ?_
      refine GC.region ?_
      refine GL.val trivial rfl (OV.move (v := slv x17.1) rfl) ?_
      refine GL.val trivial rfl (OV.move (v := pv p_r) rfl) ?_
      refine GL.call h trivial rfl ok_code_Reader_next (vs := [pv p_r]) rfl ?_
      rintro _ H22 ⟨r21, rfl, h⟩
      refine GL.appendLit (s := x17.1) (ys := [.int .u8 r21]) (zc := [.int .u8 0]) (bytes := 1) h trivial rfl (fun _ => trivial) rfl (fun _ => rfl) (fun _ => rfl) (vs := [(0, .int .u8 r21)]) rfl ⟨5, fun _ => by kernel_rfl⟩ ⟨⟨_, _, _, rfl, rfl, rfl, rfl, rfl, rfl⟩⟩ rfl rfl ?_
      intro _ r23 H24 h
      refine GL.val trivial rfl (OV.assign (v := slv r23) rfl) ?_
      refine GL.nil_to (fun _ _ h => h) ?_
      refine GC.region ?_
      refine GL.val trivial rfl (OV.ibin (v := .int .i64 (w .i64 (x17.2 + 1))) rfl rfl rfl) ?_
      refine GL.val trivial rfl (OV.move (v := .int .i64 (w .i64 (x17.2 + 1))) rfl) ?_
      exact GL.jump (fun _ _ h => h) (r23, (w .i64 (x17.2 + 1))) h ⟨rfl, rfl, rfl, rfl, rfl, rfl, trivial⟩
    · replace h := And.right h hc20
      refine GC.exit_to (fun _ _ h => h) ?_
      refine GC.seq ?_
      refine GC.region ?_
      refine GL.val trivial rfl (OV.move (v := pv p_r) rfl) ?_
      refine GL.val trivial rfl (OV.move (v := .bool ((r1 : Int) == 127)) rfl) ?_
      refine GL.call h trivial rfl ok_code_Reader_flip (vs := [pv p_r, .bool ((r1 : Int) == 127)]) rfl ?_
      rintro _ H25 ⟨rfl, h⟩
      refine GL.nil ?_
      obtain ⟨Hs26, hle27, h⟩ := h
      refine GC.tail (Hs := Hs26) 9 (by kernel_rfl) hle27 (by kernel_rfl) ?_
      refine GT.take 0 rfl (by kernel_rfl) (by kernel_rfl) (by kernel_rfl) rfl (fun _ _ _ h => False.elim h) trivial rfl (OV.move (v := pv p_v) rfl) ?_
      obtain ⟨p28, hp29, h⟩ := h
      refine GT.take 1 rfl (by kernel_rfl) (by kernel_rfl) (by kernel_rfl) rfl (fun _ _ _ h => False.elim h) trivial rfl (OV.nilCheck (q := p_v) rfl hp29) ?_
      refine GT.take 2 rfl (by kernel_rfl) (by kernel_rfl) (by kernel_rfl) rfl (fun _ _ _ h => False.elim h) trivial rfl (OV.fieldAddr (p := p28) rfl rfl) ?_
      obtain ⟨x30, hr31, h⟩ := h
      refine GT.take 3 rfl (by kernel_rfl) (by kernel_rfl) (by kernel_rfl) rfl (fun _ _ _ h => False.elim h) trivial rfl (OV.load (p := (p28.1, p28.2 + 2)) rfl rfl hr31) ?_
      refine GT.take 4 rfl (by kernel_rfl) (by kernel_rfl) (by kernel_rfl) rfl (fun _ _ _ h => False.elim h) trivial rfl (OV.move (v := slv x17.1) rfl) ?_
      obtain ⟨t32, h33, h34, h⟩ := h
      refine GT.take 5 rfl (by kernel_rfl) (by kernel_rfl) (by kernel_rfl) rfl (fun _ _ _ h => False.elim h) trivial rfl (OV.b2s (b := x17.1) (s := t32) h33 h34 rfl rfl rfl rfl) ?_
      obtain ⟨hl35, h⟩ := h
      refine GT.take 6 rfl (by kernel_rfl) (by kernel_rfl) (by kernel_rfl) rfl (fun _ _ _ h => False.elim h) trivial rfl (OV.cat (a := x30) (b := t32) rfl rfl hl35) ?_
      obtain ⟨p36, hp37, h⟩ := h
      refine GT.take 7 rfl (by kernel_rfl) (by kernel_rfl) (by kernel_rfl) rfl (fun _ _ _ h => False.elim h) trivial rfl (OV.nilCheck (q := p_v) rfl hp37) ?_
      refine GT.take 8 rfl (by kernel_rfl) (by kernel_rfl) (by kernel_rfl) rfl (fun _ _ _ h => False.elim h) trivial rfl (OV.fieldAddr (p := p36) rfl rfl) ?_
      refine GT.done (by kernel_rfl) ?_
      show GL _ _ _ _ _ [_] _ _
      refine GL.store (p := (p36.1, p36.2 + 2)) (v := sv (x30 ++ t32)) h trivial rfl rfl rfl rfl ?_
      intro H38 h
      exact GL.ends (fun _ _ hf hs => post_tmp0 rfl hf hs ⟨rfl, h⟩)

def sh_code_Reader_words (C : Ctx) (p_r : Option (Nat × Nat)) (p_v : Option (Nat × Nat)) (p_deep : Int) (K : Heap → Prop) (H : Heap) : Prop :=
  c_code_Reader_Str C p_r 4096 (fun r1 H2 =>
 nck p_v fun p3 =>
 st (p3.1, p3.2 + 2) (sv r1) (fun H5 =>
 K H5) H2) H

theorem ad_code_Reader_words (C : Ctx) (p_r : Option (Nat × Nat)) (p_v : Option (Nat × Nat)) (p_deep : Int) (K : Heap → Prop) (H : Heap) (h : sh_code_Reader_words C p_r p_v p_deep K H) : c_code_Reader_words C p_r p_v p_deep K H := by
  refine Spec.enter Tryd.func88 rfl Tryd.ntmps88 rfl ?_
  refine GC.sub [(0, pv p_r), (1, pv p_v), (2, .int .i64 p_deep)] ⟨rfl, rfl, rfl, trivial⟩ ?_
  refine GC.region ?_
  refine GL.val trivial rfl (OV.move (v := pv p_v) rfl) ?_
  refine GL.val trivial rfl (OV.move (v := pv p_r) rfl) ?_
  refine GL.call h trivial rfl ok_code_Reader_Str (vs := [pv p_r, .int .i64 4096]) rfl ?_
  rintro _ H2 ⟨r1, rfl, h⟩
  obtain ⟨p3, hp4, h⟩ := h
  refine GL.val trivial rfl (OV.nilCheck (q := p_v) rfl hp4) ?_
  refine GL.val trivial rfl (OV.fieldAddr (p := p3) rfl rfl) ?_
  refine GL.store (p := (p3.1, p3.2 + 2)) (v := sv r1) h trivial rfl rfl rfl rfl ?_
  intro H5 h
  exact GL.ends (fun _ _ hf hs => post_tmp0 rfl hf hs ⟨rfl, h⟩)

def sh_code_Reader_list (C : Ctx) (p_r : Option (Nat × Nat)) (p_v : Option (Nat × Nat)) (p_deep : Int) (K : Heap → Prop) (H : Heap) : Prop :=
  c_code_Reader_next C p_r (fun r1 H2 =>
 lp (α := Sl × Int) (Sl.nil, r1) H2 (fun x3 J4 H5 =>
 ift ((x3.2 : Int) != 0)
 (jn (α := Sl) (fun x8 H9 =>
 c_code_Reader_next C p_r (fun r19 H20 =>
 J4 (x8, r19) H20) H9)
 (fun J7 => c_code_Reader_ask C p_r (((x3.2 : Int) == 1) && (decide (((Sl.len x3.1 : Int) : Int) < 16))) (fun r12 H13 =>
 ift r12
 (c_code_Reader_value C p_r (w .i64 (p_deep + 1)) (fun r15 H16 =>
 apd (T_api_Value.c T_api_Value.zero) 56 x3.1 ((T_api_Value.c r15) ++ []) 1 (fun r17 H18 =>
 J7 r17 H18) H16) H13)
 (J7 x3.1 H13)) H5))
 (nck p_v fun p21 =>
 st (p21.1, p21.2 + 3) (slv x3.1) (fun H23 =>
 K H23) H5))) H

theorem ad_code_Reader_list (C : Ctx) (p_r : Option (Nat × Nat)) (p_v : Option (Nat × Nat)) (p_deep : Int) (K : Heap → Prop) (H : Heap) (h : sh_code_Reader_list C p_r p_v p_deep K H) : c_code_Reader_list C p_r p_v p_deep K H := by
  refine Spec.enter Tryd.func89 rfl Tryd.ntmps89 rfl ?_
  refine GC.sub [(0, pv p_r), (1, pv p_v), (2, .int .i64 p_deep)] ⟨rfl, rfl, rfl, trivial⟩ ?_
  refine GC.seq ?_
  refine GC.region ?_
  refine GL.val trivial rfl (OV.assign (v := slv Sl.nil) rfl) ?_
  refine GL.nil ?_
  refine GC.seq ?_
  refine GC.seq ?_
  refine GC.region ?_
  refine GL.val trivial rfl (OV.move (v := pv p_r) rfl) ?_
  refine GL.call h trivial rfl ok_code_Reader_next (vs := [pv p_r]) rfl ?_
  rintro _ H2 ⟨r1, rfl, h⟩
  refine GL.val trivial rfl (OV.assign (v := .int .u8 r1) rfl) ?_
  refine GL.nil ?_
  refine GC.block ?_
  refine GC.loop (α := Sl × Int) h (fun x3 => [(6, slv x3.1), (7, .int .u8 x3.2), (0, pv p_r), (1, pv p_v), (2, .int .i64 p_deep)]) ⟨rfl, rfl, rfl, rfl, rfl, trivial⟩ ?_
  intro x3 H5 J4 h
  refine GC.seq ?_
  refine GC.seq ?_
  refine GC.region ?_
  refine GL.val trivial rfl (OV.move (v := .int .u8 x3.2) rfl) ?_
  refine GL.val trivial rfl (OV.ibin (v := .bool ((x3.2 : Int) != 0)) rfl rfl rfl) ?_
  refine GL.nil ?_
  refine GC.cond (b := (x3.2 : Int) != 0) rfl (fun hc6 => ?_) (fun hc6 => ?_)
  · replace h := And.left h hc6
    refine GC.skip ?_
    obtain ⟨J7, h, hR10⟩ := h
    refine GC.join (α := Sl) J7 (fun x8 => [(6, slv x8), (0, pv p_r), (1, pv p_v), (2, .int .i64 p_deep)]) ?_ ?_
    · skip
      refine GC.block ?_
      refine GC.seq ?_
      refine GC.region ?_
      refine GL.val trivial rfl (OV.move (v := pv p_r) rfl) ?_
      refine GL.val trivial rfl (OV.move (v := .int .u8 x3.2) rfl) ?_
      refine GL.val trivial rfl (OV.ibin (v := .bool ((x3.2 : Int) == 1)) rfl rfl rfl) ?_
      refine GL.val trivial rfl (OV.move (v := .bool ((x3.2 : Int) == 1)) rfl) ?_
      refine GL.cut0 4 [(21, .bool (((x3.2 : Int) == 1) && (decide (((Sl.len x3.1 : Int) : Int) < 16)))), (0, pv p_r), (1, pv p_v), (2, .int .i64 p_deep), (6, slv x3.1), (14, pv p_r)] ?_ ?_
      · rcases Bool.eq_false_or_eq_true ((x3.2 : Int) == 1) with hc11 | hc11
        · skip
          refine GL.val ⟨_, _, rfl, rfl, hc11⟩ rfl (OV.move (v := slv x3.1) rfl) ?_
          refine GL.val ⟨_, _, rfl, rfl, hc11⟩ rfl (OV.lenSl (s := x3.1) rfl rfl) ?_
          refine GL.val ⟨_, _, rfl, rfl, hc11⟩ rfl (OV.ibin (v := .bool (decide (((Sl.len x3.1 : Int) : Int) < 16))) rfl rfl rfl) ?_
          refine GL.val trivial rfl (OV.pickT (b := (x3.2 : Int) == 1) (v := .bool (decide (((Sl.len x3.1 : Int) : Int) < 16))) rfl hc11 rfl) ?_
          exact GL.jump0 (fun _ _ h => h) () rfl ⟨(by rw [hc11]; rfl), rfl, rfl, rfl, rfl, rfl, trivial⟩
        · skip
          refine GL.skip ⟨_, rfl, .inl ⟨_, rfl, hc11⟩⟩ rfl ?_
          refine GL.skip ⟨_, rfl, .inl ⟨_, rfl, hc11⟩⟩ rfl ?_
          refine GL.skip ⟨_, rfl, .inl ⟨_, rfl, hc11⟩⟩ rfl ?_
          refine GL.val trivial rfl (OV.pickF (b := (x3.2 : Int) == 1) (v := .bool false) rfl hc11 rfl) ?_
          exact GL.jump0 (fun _ _ h => h) () rfl ⟨(by rw [hc11]; rfl), rfl, rfl, rfl, rfl, rfl, trivial⟩
      refine GL.call h trivial rfl ok_code_Reader_ask (vs := [pv p_r, .bool (((x3.2 : Int) == 1) && (decide (((Sl.len x3.1 : Int) : Int) < 16)))]) rfl ?_
      rintro _ H13 ⟨r12, rfl, h⟩
      refine GL.nil ?_
      refine GC.cond (b := r12) rfl (fun hc14 => ?_) (fun hc14 => ?_)
      · replace h := And.left h hc14
        refine GC.region ?_
        refine GL.val trivial rfl (OV.move (v := slv x3.1) rfl) ?_
        refine GL.val trivial rfl (OV.move (v := pv p_r) rfl) ?_
        refine GL.val trivial rfl (OV.move (v := .int .i64 p_deep) rfl) ?_
        refine GL.val trivial rfl (OV.ibin (v := .int .i64 (w .i64 (p_deep + 1))) rfl rfl rfl) ?_
        refine GL.call h trivial rfl ok_code_Reader_value (vs := [pv p_r, .int .i64 (w .i64 (p_deep + 1))]) rfl ?_
        rintro _ H16 ⟨r15, rfl, h⟩
        refine GL.appendLit (s := x3.1) (ys := (T_api_Value.c r15) ++ []) (zc := T_api_Value.c T_api_Value.zero) (bytes := 56) h trivial rfl (fun _ => trivial) rfl (fun _ => rfl) (fun _ => rfl) (vs := [(0, .agg (T_api_Value.c r15).toArray)]) rfl ⟨25, fun _ => by kernel_rfl⟩ ⟨⟨_, _, _, rfl, rfl, rfl, rfl, rfl, rfl⟩⟩ rfl rfl ?_
        intro _ r17 H18 h
        refine GL.val trivial rfl (OV.assign (v := slv r17) rfl) ?_
        exact GL.jump (fun _ _ h => h) r17 h ⟨rfl, rfl, rfl, rfl, trivial⟩
      · replace h := And.right h hc14
        exact GC.jump (fun _ _ h => h) x3.1 h ⟨rfl, rfl, rfl, rfl, trivial⟩
    · intro x8 H9 h
      replace h := hR10 x8 H9 h
      refine GC.region ?_
      refine GL.val trivial rfl (OV.move (v := pv p_r) rfl) ?_
      refine GL.call h trivial rfl ok_code_Reader_next (vs := [pv p_r]) rfl ?_
      rintro _ H20 ⟨r19, rfl, h⟩
      refine GL.val trivial rfl (OV.assign (v := .int .u8 r19) rfl) ?_
      exact GL.jump (fun _ _ h => h) (x8, r19) h ⟨rfl, rfl, rfl, rfl, rfl, trivial⟩
  · replace h := And.right h hc6
    refine GC.exit_to (fun _ _ h => h) ?_
    refine GC.region ?_
    refine GL.val trivial rfl (OV.move (v := pv p_v) rfl) ?_
    refine GL.val trivial rfl (OV.move (v := slv x3.1) rfl) ?_
    obtain ⟨p21, hp22, h⟩ := h
    refine GL.val trivial rfl (OV.nilCheck (q := p_v) rfl hp22) ?_
    refine GL.val trivial rfl (OV.fieldAddr (p := p21) rfl rfl) ?_
    refine GL.store (p := (p21.1, p21.2 + 3)) (v := slv x3.1) h trivial rfl rfl rfl rfl ?_
    intro H23 h
    exact GL.ends (fun _ _ hf hs => post_tmp0 rfl hf hs ⟨rfl, h⟩)

def sh_code_Reader_cons (C : Ctx) (p_r : Option (Nat × Nat)) (p_v : Option (Nat × Nat)) (p_deep : Int) (K : Heap → Prop) (H : Heap) : Prop :=
  c_code_Reader_words C p_r p_v p_deep (fun H1 =>
 c_code_Reader_list C p_r p_v p_deep (fun H2 =>
 K H2) H1) H

theorem ad_code_Reader_cons (C : Ctx) (p_r : Option (Nat × Nat)) (p_v : Option (Nat × Nat)) (p_deep : Int) (K : Heap → Prop) (H : Heap) (h : sh_code_Reader_cons C p_r p_v p_deep K H) : c_code_Reader_cons C p_r p_v p_deep K H := by
  refine Spec.enter Tryd.func90 rfl Tryd.ntmps90 rfl ?_
  refine GC.sub [(0, pv p_r), (1, pv p_v), (2, .int .i64 p_deep)] ⟨rfl, rfl, rfl, trivial⟩ ?_
  refine GC.seq ?_
  refine GC.region ?_
  refine GL.val trivial rfl (OV.move (v := pv p_r) rfl) ?_
  refine GL.val trivial rfl (OV.move (v := pv p_v) rfl) ?_
  refine GL.val trivial rfl (OV.move (v := .int .i64 p_deep) rfl) ?_
  refine GL.call h trivial rfl ok_code_Reader_words (vs := [pv p_r, pv p_v, .int .i64 p_deep]) rfl ?_
  rintro _ H1 ⟨rfl, h⟩
  refine GL.nil ?_
  refine GC.region ?_
  refine GL.val trivial rfl (OV.move (v := pv p_r) rfl) ?_
  refine GL.val trivial rfl (OV.move (v := pv p_v) rfl) ?_
  refine GL.val trivial rfl (OV.move (v := .int .i64 p_deep) rfl) ?_
  refine GL.call h trivial rfl ok_code_Reader_list (vs := [pv p_r, pv p_v, .int .i64 p_deep]) rfl ?_
  rintro _ H2 ⟨rfl, h⟩
  exact GL.ends (fun _ _ hf hs => post_tmp0 rfl hf hs ⟨rfl, h⟩)

def sh_value_number (C : Ctx) (p_s : Str) (K : Int → Bool → Heap → Prop) (H : Heap) : Prop :=
  c_strings_TrimPrefix C p_s [45] (fun r1 H2 =>
 jn (α := Bool) (fun b3 H9 =>
 jn (α := Bool) (fun b10 H18 =>
 ift b10
 (K 0 false H18)
 (K (List.length r1 : Int) true H18))
 (fun J11 => ift b3
 (J11 true H9)
 (ixs r1 0 fun c14 =>
 J11 ((((c14.toNat : Int) : Int) == 48) && (!(p_s == ([48] : Str)))) H9)))
 (fun J4 => ift (r1 == ([] : Str))
 (J4 true H2)
 (c_strings_Trim C r1 [48, 49, 50, 51, 52, 53, 54, 55, 56, 57] (fun r7 H8 =>
 J4 (!(r7 == ([] : Str))) H8) H2))) H

theorem ad_value_number (C : Ctx) (p_s : Str) (K : Int → Bool → Heap → Prop) (H : Heap) (h : sh_value_number C p_s K H) : c_value_number C p_s K H := by
  refine Spec.enter Tryd.func91 rfl Tryd.ntmps91 rfl ?_
  refine GC.sub [(0, sv p_s)] ⟨rfl, trivial⟩ ?_
  refine GC.seq ?_
  refine GC.region ?_
  refine GL.val trivial rfl (OV.assign (v := .int .i64 0) rfl) ?_
  refine GL.val trivial rfl (OV.assign (v := .bool false) rfl) ?_
  refine GL.nil ?_
  refine GC.seq ?_
  refine GC.region ?_
  refine GL.val trivial rfl (OV.move (v := sv p_s) rfl) ?_
  refine GL.call h trivial rfl ok_strings_TrimPrefix (vs := [sv p_s, sv [45]]) rfl ?_
  rintro _ H2 ⟨r1, rfl, h⟩
  refine GL.val trivial rfl (OV.assign (v := sv r1) rfl) ?_
  refine GL.nil ?_
  refine GC.seq ?_
  refine GC.seq ?_
  refine GC.region ?_
  refine GL.val trivial rfl (OV.move (v := sv r1) rfl) ?_
  refine GL.val trivial rfl (OV.sbin (a := r1) (b := ([] : Str)) (v := .bool (r1 == ([] : Str))) rfl rfl rfl) ?_
  refine GL.val trivial rfl (OV.move (v := .bool (r1 == ([] : Str))) rfl) ?_
  obtain ⟨J4, h, hR5⟩ := h
  refine GL.cut (α := Bool) 4 J4 (fun b3 => [(13, .bool b3), (0, sv p_s), (4, sv r1)]) ?_ ?_
  · rcases Bool.eq_false_or_eq_true (r1 == ([] : Str)) with hc6 | hc6
    · skip
      replace h := And.left h hc6
      refine GL.skip ⟨_, rfl, .inl ⟨_, rfl, hc6⟩⟩ rfl ?_
      refine GL.skip ⟨_, rfl, .inl ⟨_, rfl, hc6⟩⟩ rfl ?_
      refine GL.skip ⟨_, rfl, .inl ⟨_, rfl, hc6⟩⟩ rfl ?_
      refine GL.val trivial rfl (OV.pickT (b := r1 == ([] : Str)) (v := .bool true) rfl hc6 rfl) ?_
      exact GL.jump (fun _ _ h => h) true h ⟨rfl, rfl, rfl, trivial⟩
    · skip
      replace h := And.right h hc6
      refine GL.val ⟨_, _, rfl, rfl, hc6⟩ rfl (OV.move (v := sv r1) rfl) ?_
      refine GL.call h ⟨_, _, rfl, rfl, hc6⟩ rfl ok_strings_Trim (vs := [sv r1, sv [48, 49, 50, 51, 52, 53, 54, 55, 56, 57]]) rfl ?_
      rintro _ H8 ⟨r7, rfl, h⟩
      refine GL.val ⟨_, _, rfl, rfl, hc6⟩ rfl (OV.sbin (a := r7) (b := ([] : Str)) (v := .bool (!(r7 == ([] : Str)))) rfl rfl rfl) ?_
      refine GL.val trivial rfl (OV.pickF (b := r1 == ([] : Str)) (v := .bool (!(r7 == ([] : Str)))) rfl hc6 rfl) ?_
      exact GL.jump (fun _ _ h => h) (!(r7 == ([] : Str))) h ⟨rfl, rfl, rfl, trivial⟩
  intro b3 H9 h
  replace h := hR5 b3 H9 h
  refine GL.val trivial rfl (OV.move (v := .bool b3) rfl) ?_
  obtain ⟨J11, h, hR12⟩ := h
  refine GL.cut (α := Bool) 8 J11 (fun b10 => [(22, .bool b10), (4, sv r1)]) ?_ ?_
  · rcases Bool.eq_false_or_eq_true b3 with hc13 | hc13
    · skip
      replace h := And.left h hc13
      refine GL.skip ⟨_, rfl, .inl ⟨_, rfl, hc13⟩⟩ rfl ?_
      refine GL.skip ⟨_, rfl, .inl ⟨_, rfl, hc13⟩⟩ rfl ?_
      refine GL.skip ⟨_, rfl, .inl ⟨_, rfl, hc13⟩⟩ rfl ?_
      refine GL.skip ⟨_, rfl, .inl ⟨_, rfl, hc13⟩⟩ rfl ?_
      refine GL.skip ⟨_, rfl, .inr rfl⟩ rfl ?_
      refine GL.skip ⟨_, rfl, .inr rfl⟩ rfl ?_
      refine GL.skip ⟨_, rfl, .inl ⟨_, rfl, hc13⟩⟩ rfl ?_
      refine GL.val trivial rfl (OV.pickT (b := b3) (v := .bool true) rfl hc13 rfl) ?_
      exact GL.jump (fun _ _ h => h) true h ⟨rfl, rfl, trivial⟩
    · skip
      replace h := And.right h hc13
      refine GL.val ⟨_, _, rfl, rfl, hc13⟩ rfl (OV.move (v := sv r1) rfl) ?_
      obtain ⟨c14, ha15, hb16, h⟩ := h
      refine GL.val ⟨_, _, rfl, rfl, hc13⟩ rfl (OV.indexStr (s := r1) rfl rfl rfl ha15 hb16) ?_
      refine GL.val ⟨_, _, rfl, rfl, hc13⟩ rfl (OV.ibin (v := .bool (((c14.toNat : Int) : Int) == 48)) rfl rfl rfl) ?_
      refine GL.val ⟨_, _, rfl, rfl, hc13⟩ rfl (OV.move (v := .bool (((c14.toNat : Int) : Int) == 48)) rfl) ?_
      refine GL.cut0 3 [(21, .bool ((((c14.toNat : Int) : Int) == 48) && (!(p_s == ([48] : Str))))), (4, sv r1), (14, .bool b3)] ?_ ?_
      · rcases Bool.eq_false_or_eq_true (((c14.toNat : Int) : Int) == 48) with hc17 | hc17
        · skip
          refine GL.val ⟨_, _, rfl, rfl, hc17⟩ rfl (OV.move (v := sv p_s) rfl) ?_
          refine GL.val ⟨_, _, rfl, rfl, hc17⟩ rfl (OV.sbin (a := p_s) (b := ([48] : Str)) (v := .bool (!(p_s == ([48] : Str)))) rfl rfl rfl) ?_
          refine GL.val ⟨_, _, rfl, rfl, hc13⟩ rfl (OV.pickT (b := ((c14.toNat : Int) : Int) == 48) (v := .bool (!(p_s == ([48] : Str)))) rfl hc17 rfl) ?_
          exact GL.jump0 (fun _ _ h => h) () rfl ⟨(by rw [hc17]; rfl), rfl, rfl, trivial⟩
        · skip
          refine GL.skip ⟨_, rfl, .inl ⟨_, rfl, hc17⟩⟩ rfl ?_
          refine GL.skip ⟨_, rfl, .inl ⟨_, rfl, hc17⟩⟩ rfl ?_
          refine GL.val ⟨_, _, rfl, rfl, hc13⟩ rfl (OV.pickF (b := ((c14.toNat : Int) : Int) == 48) (v := .bool false) rfl hc17 rfl) ?_
          exact GL.jump0 (fun _ _ h => h) () rfl ⟨(by rw [hc17]; rfl), rfl, rfl, trivial⟩
      refine GL.val trivial rfl (OV.pickF (b := b3) (v := .bool ((((c14.toNat : Int) : Int) == 48) && (!(p_s == ([48] : Str))))) rfl hc13 rfl) ?_
      exact GL.jump (fun _ _ h => h) ((((c14.toNat : Int) : Int) == 48) && (!(p_s == ([48] : Str)))) h ⟨rfl, rfl, trivial⟩
  intro b10 H18 h
  replace h := hR12 b10 H18 h
  refine GL.nil ?_
  refine GC.cond (b := b10) rfl (fun hc19 => ?_) (fun hc19 => ?_)
  · replace h := And.left h hc19
    refine GC.seq ?_
    refine GC.region ?_
    refine GL.val trivial rfl (OV.assign (v := .int .i64 0) rfl) ?_
    refine GL.val trivial rfl (OV.assign (v := .bool false) rfl) ?_
    refine GL.nil ?_
    exact GC.ret (fun _ _ hf hs => post_tmp2 rfl rfl rfl hf hs ⟨0, false, rfl, h⟩)
  · replace h := And.right h hc19
    refine GC.skip ?_
    refine GC.seq ?_
    refine GC.region ?_
    refine GL.val trivial rfl (OV.move (v := sv r1) rfl) ?_
    refine GL.val trivial rfl (OV.lenStr (s := r1) rfl rfl) ?_
    refine GL.val trivial rfl (OV.assign (v := .int .i64 (List.length r1 : Int)) rfl) ?_
    refine GL.val trivial rfl (OV.assign (v := .bool true) rfl) ?_
    refine GL.nil ?_
    exact GC.ret (fun _ _ hf hs => post_tmp2 rfl rfl rfl hf hs ⟨(List.length r1 : Int), true, rfl, h⟩)

def sh_strings_Cut (C : Ctx) (p_s : Str) (p_sep : Str) (K : Str → Str → Bool → Heap → Prop) (H : Heap) : Prop :=
  c_internal_stringslite_Cut C p_s p_sep (fun r1 r2 r3 H4 =>
 K r1 r2 r3 H4) H

theorem ad_strings_Cut (C : Ctx) (p_s : Str) (p_sep : Str) (K : Str → Str → Bool → Heap → Prop) (H : Heap) (h : sh_strings_Cut C p_s p_sep K H) : c_strings_Cut C p_s p_sep K H := by
  refine Spec.enter Tryd.func92 rfl Tryd.ntmps92 rfl ?_
  refine GC.sub [(0, sv p_s), (1, sv p_sep)] ⟨rfl, rfl, trivial⟩ ?_
  refine GC.seq ?_
  refine GC.region ?_
  refine GL.val trivial rfl (OV.assign (v := sv []) rfl) ?_
  refine GL.val trivial rfl (OV.assign (v := sv []) rfl) ?_
  refine GL.val trivial rfl (OV.assign (v := .bool false) rfl) ?_
  refine GL.nil ?_
  refine GC.seq ?_
  refine GC.region ?_
  refine GL.val trivial rfl (OV.move (v := sv p_s) rfl) ?_
  refine GL.val trivial rfl (OV.move (v := sv p_sep) rfl) ?_
  refine GL.call h trivial rfl ok_internal_stringslite_Cut (vs := [sv p_s, sv p_sep]) rfl ?_
  rintro _ H4 ⟨r1, r2, r3, rfl, h⟩
  refine GL.val trivial rfl (OV.extract (v := sv r1) rfl rfl) ?_
  refine GL.val trivial rfl (OV.extract (v := sv r2) rfl rfl) ?_
  refine GL.val trivial rfl (OV.extract (v := .bool r3) rfl rfl) ?_
  refine GL.val trivial rfl (OV.assign (v := sv r1) rfl) ?_
  refine GL.val trivial rfl (OV.assign (v := sv r2) rfl) ?_
  refine GL.val trivial rfl (OV.assign (v := .bool r3) rfl) ?_
  refine GL.nil ?_
  exact GC.ret (fun _ _ hf hs => post_tmp3 rfl rfl rfl rfl hf hs ⟨r1, r2, r3, rfl, h⟩)

def sh_value_name (C : Ctx) (p_s : Str) (K : Bool → Heap → Prop) (H : Heap) : Prop :=
  jn (α := Bool) (fun b2 H9 =>
 jn (α := Bool) (fun b10 H17 =>
 ift b10
 (K false H17)
 (lp (α := Int) 0 H17 (fun x19 J20 H21 =>
 ift (decide ((x19 : Int) < (List.length p_s : Int)))
 (ixs p_s x19 fun c23 =>
 ift (!(((((decide (((c23.toNat : Int) : Int) ≥ 97)) && (decide (((c23.toNat : Int) : Int) ≤ 122))) || ((decide (((c23.toNat : Int) : Int) ≥ 65)) && (decide (((c23.toNat : Int) : Int) ≤ 90)))) || ((decide (((c23.toNat : Int) : Int) ≥ 48)) && (decide (((c23.toNat : Int) : Int) ≤ 57)))) || (((c23.toNat : Int) : Int) == 95)))
 (K false H21)
 (J20 (w .i64 (x19 + 1)) H21))
 (K true H21))))
 (fun J11 => ift b2
 (J11 true H9)
 (ixs p_s 0 fun c14 =>
 J11 (decide (((c14.toNat : Int) : Int) > 122)) H9)))
 (fun J3 => ift ((p_s == ([] : Str)) || (decide (((List.length p_s : Int) : Int) > 32)))
 (J3 true H)
 (ixs p_s 0 fun c6 =>
 J3 (decide (((c6.toNat : Int) : Int) < 97)) H))

theorem ad_value_name (C : Ctx) (p_s : Str) (K : Bool → Heap → Prop) (H : Heap) (h : sh_value_name C p_s K H) : c_value_name C p_s K H := by
  refine Spec.enter Tryd.func93 rfl Tryd.ntmps93 rfl ?_
  refine GC.sub [(0, sv p_s)] ⟨rfl, trivial⟩ ?_
  refine GC.seq ?_
  refine GC.region ?_
  refine GL.val trivial rfl (OV.assign (v := .bool false) rfl) ?_
  refine GL.nil ?_
  refine GC.seq ?_
  refine GC.seq ?_
  refine GC.region ?_
  refine GL.val trivial rfl (OV.move (v := sv p_s) rfl) ?_
  refine GL.val trivial rfl (OV.sbin (a := p_s) (b := ([] : Str)) (v := .bool (p_s == ([] : Str))) rfl rfl rfl) ?_
  refine GL.val trivial rfl (OV.move (v := .bool (p_s == ([] : Str))) rfl) ?_
  refine GL.cut0 4 [(11, .bool ((p_s == ([] : Str)) || (decide (((List.length p_s : Int) : Int) > 32)))), (0, sv p_s)] ?_ ?_
  · rcases Bool.eq_false_or_eq_true (p_s == ([] : Str)) with hc1 | hc1
    · skip
      refine GL.skip ⟨_, rfl, .inl ⟨_, rfl, hc1⟩⟩ rfl ?_
      refine GL.skip ⟨_, rfl, .inl ⟨_, rfl, hc1⟩⟩ rfl ?_
      refine GL.skip ⟨_, rfl, .inl ⟨_, rfl, hc1⟩⟩ rfl ?_
      refine GL.val trivial rfl (OV.pickT (b := p_s == ([] : Str)) (v := .bool true) rfl hc1 rfl) ?_
      exact GL.jump0 (fun _ _ h => h) () rfl ⟨(by rw [hc1]; rfl), rfl, trivial⟩
    · skip
      refine GL.val ⟨_, _, rfl, rfl, hc1⟩ rfl (OV.move (v := sv p_s) rfl) ?_
      refine GL.val ⟨_, _, rfl, rfl, hc1⟩ rfl (OV.lenStr (s := p_s) rfl rfl) ?_
      refine GL.val ⟨_, _, rfl, rfl, hc1⟩ rfl (OV.ibin (v := .bool (decide (((List.length p_s : Int) : Int) > 32))) rfl rfl rfl) ?_
      refine GL.val trivial rfl (OV.pickF (b := p_s == ([] : Str)) (v := .bool (decide (((List.length p_s : Int) : Int) > 32))) rfl hc1 rfl) ?_
      exact GL.jump0 (fun _ _ h => h) () rfl ⟨(by rw [hc1]; rfl), rfl, trivial⟩
  refine GL.val trivial rfl (OV.move (v := .bool ((p_s == ([] : Str)) || (decide (((List.length p_s : Int) : Int) > 32)))) rfl) ?_
  obtain ⟨J3, h, hR4⟩ := h
  refine GL.cut (α := Bool) 4 J3 (fun b2 => [(16, .bool b2), (0, sv p_s)]) ?_ ?_
  · rcases Bool.eq_false_or_eq_true ((p_s == ([] : Str)) || (decide (((List.length p_s : Int) : Int) > 32))) with hc5 | hc5
    · skip
      replace h := And.left h hc5
      refine GL.skip ⟨_, rfl, .inl ⟨_, rfl, hc5⟩⟩ rfl ?_
      refine GL.skip ⟨_, rfl, .inl ⟨_, rfl, hc5⟩⟩ rfl ?_
      refine GL.skip ⟨_, rfl, .inl ⟨_, rfl, hc5⟩⟩ rfl ?_
      refine GL.val trivial rfl (OV.pickT (b := (p_s == ([] : Str)) || (decide (((List.length p_s : Int) : Int) > 32))) (v := .bool true) rfl hc5 rfl) ?_
      exact GL.jump (fun _ _ h => h) true h ⟨rfl, rfl, trivial⟩
    · skip
      replace h := And.right h hc5
      refine GL.val ⟨_, _, rfl, rfl, hc5⟩ rfl (OV.move (v := sv p_s) rfl) ?_
      obtain ⟨c6, ha7, hb8, h⟩ := h
      refine GL.val ⟨_, _, rfl, rfl, hc5⟩ rfl (OV.indexStr (s := p_s) rfl rfl rfl ha7 hb8) ?_
      refine GL.val ⟨_, _, rfl, rfl, hc5⟩ rfl (OV.ibin (v := .bool (decide (((c6.toNat : Int) : Int) < 97))) rfl rfl rfl) ?_
      refine GL.val trivial rfl (OV.pickF (b := (p_s == ([] : Str)) || (decide (((List.length p_s : Int) : Int) > 32))) (v := .bool (decide (((c6.toNat : Int) : Int) < 97))) rfl hc5 rfl) ?_
      exact GL.jump (fun _ _ h => h) (decide (((c6.toNat : Int) : Int) < 97)) h ⟨rfl, rfl, trivial⟩
  intro b2 H9 h
  replace h := hR4 b2 H9 h
  refine GL.val trivial rfl (OV.move (v := .bool b2) rfl) ?_
  obtain ⟨J11, h, hR12⟩ := h
  refine GL.cut (α := Bool) 4 J11 (fun b10 => [(21, .bool b10), (0, sv p_s)]) ?_ ?_
  · rcases Bool.eq_false_or_eq_true b2 with hc13 | hc13
    · skip
      replace h := And.left h hc13
      refine GL.skip ⟨_, rfl, .inl ⟨_, rfl, hc13⟩⟩ rfl ?_
      refine GL.skip ⟨_, rfl, .inl ⟨_, rfl, hc13⟩⟩ rfl ?_
      refine GL.skip ⟨_, rfl, .inl ⟨_, rfl, hc13⟩⟩ rfl ?_
      refine GL.val trivial rfl (OV.pickT (b := b2) (v := .bool true) rfl hc13 rfl) ?_
      exact GL.jump (fun _ _ h => h) true h ⟨rfl, rfl, trivial⟩
    · skip
      replace h := And.right h hc13
      refine GL.val ⟨_, _, rfl, rfl, hc13⟩ rfl (OV.move (v := sv p_s) rfl) ?_
      obtain ⟨c14, ha15, hb16, h⟩ := h
      refine GL.val ⟨_, _, rfl, rfl, hc13⟩ rfl (OV.indexStr (s := p_s) rfl rfl rfl ha15 hb16) ?_
      refine GL.val ⟨_, _, rfl, rfl, hc13⟩ rfl (OV.ibin (v := .bool (decide (((c14.toNat : Int) : Int) > 122))) rfl rfl rfl) ?_
      refine GL.val trivial rfl (OV.pickF (b := b2) (v := .bool (decide (((c14.toNat : Int) : Int) > 122))) rfl hc13 rfl) ?_
      exact GL.jump (fun _ _ h => h) (decide (((c14.toNat : Int) : Int) > 122)) h ⟨rfl, rfl, trivial⟩
  intro b10 H17 h
  replace h := hR12 b10 H17 h
  refine GL.nil ?_
  refine GC.cond (b := b10) rfl (fun hc18 => ?_) (fun hc18 => ?_)
  · replace h := And.left h hc18
    refine GC.seq ?_
    refine GC.region ?_
    refine GL.val trivial rfl (OV.assign (v := .bool false) rfl) ?_
    refine GL.nil ?_
    exact GC.ret (fun _ _ hf hs => post_tmp1 rfl rfl hf hs ⟨false, rfl, h⟩)
  · replace h := And.right h hc18
    refine GC.skip ?_
    refine GC.seq ?_
    refine GC.seq ?_
    refine GC.region ?_
    refine GL.val trivial rfl (OV.move (v := sv p_s) rfl) ?_
    refine GL.val trivial rfl (OV.lenStr (s := p_s) rfl rfl) ?_
    refine GL.val trivial rfl (OV.move (v := .int .i64 0) rfl) ?_
    refine GL.nil ?_
    refine GC.block ?_
    refine GC.loop (α := Int) h (fun x19 => [(24, .int .i64 x19), (0, sv p_s), (23, .int .i64 (List.length p_s : Int))]) ⟨rfl, rfl, rfl, trivial⟩ ?_
    intro x19 H21 J20 h
    refine GC.seq ?_
    refine GC.region ?_
    refine GL.val trivial rfl (OV.ibin (v := .bool (decide ((x19 : Int) < (List.length p_s : Int)))) rfl rfl rfl) ?_
    refine GL.nil ?_
    refine GC.seq ?_
    refine GC.cond (b := decide ((x19 : Int) < (List.length p_s : Int))) rfl (fun hc22 => ?_) (fun hc22 => ?_)
    · replace h := And.left h hc22
      refine GC.skip ?_
      refine GC.seq ?_
      refine GC.block ?_
      refine GC.seq ?_
      refine GC.region ?_
      refine GL.val trivial rfl (OV.move (v := .int .i64 x19) rfl) ?_
      refine GL.val trivial rfl (OV.assign (v := .int .i64 x19) rfl) ?_
      refine GL.nil ?_
      refine GC.seq ?_
      refine GC.region ?_
      refine GL.val trivial rfl (OV.move (v := sv p_s) rfl) ?_
      refine GL.val trivial rfl (OV.move (v := .int .i64 x19) rfl) ?_
      obtain ⟨c23, ha24, hb25, h⟩ := h
      refine GL.val trivial rfl (OV.indexStr (s := p_s) rfl rfl rfl ha24 hb25) ?_
      refine GL.val trivial rfl (OV.assign (v := .int .u8 (c23.toNat : Int)) rfl) ?_
      refine GL.nil ?_
      refine GC.seq ?_
      refine GC.region ?_
      refine GL.val trivial rfl (OV.move (v := .int .u8 (c23.toNat : Int)) rfl) ?_
      refine GL.val trivial rfl (OV.ibin (v := .bool (decide (((c23.toNat : Int) : Int) ≥ 97))) rfl rfl rfl) ?_
      refine GL.val trivial rfl (OV.move (v := .bool (decide (((c23.toNat : Int) : Int) ≥ 97))) rfl) ?_
      refine GL.cut0 3 [(35, .bool ((decide (((c23.toNat : Int) : Int) ≥ 97)) && (decide (((c23.toNat : Int) : Int) ≤ 122)))), (0, sv p_s), (4, .int .u8 (c23.toNat : Int)), (23, .int .i64 (List.length p_s : Int)), (24, .int .i64 x19)] ?_ ?_
      · rcases Bool.eq_false_or_eq_true (decide (((c23.toNat : Int) : Int) ≥ 97)) with hc26 | hc26
        · skip
          refine GL.val ⟨_, _, rfl, rfl, hc26⟩ rfl (OV.move (v := .int .u8 (c23.toNat : Int)) rfl) ?_
          refine GL.val ⟨_, _, rfl, rfl, hc26⟩ rfl (OV.ibin (v := .bool (decide (((c23.toNat : Int) : Int) ≤ 122))) rfl rfl rfl) ?_
          refine GL.val trivial rfl (OV.pickT (b := decide (((c23.toNat : Int) : Int) ≥ 97)) (v := .bool (decide (((c23.toNat : Int) : Int) ≤ 122))) rfl hc26 rfl) ?_
          exact GL.jump0 (fun _ _ h => h) () rfl ⟨(by rw [hc26]; rfl), rfl, rfl, rfl, rfl, trivial⟩
        · skip
          refine GL.skip ⟨_, rfl, .inl ⟨_, rfl, hc26⟩⟩ rfl ?_
          refine GL.skip ⟨_, rfl, .inl ⟨_, rfl, hc26⟩⟩ rfl ?_
          refine GL.val trivial rfl (OV.pickF (b := decide (((c23.toNat : Int) : Int) ≥ 97)) (v := .bool false) rfl hc26 rfl) ?_
          exact GL.jump0 (fun _ _ h => h) () rfl ⟨(by rw [hc26]; rfl), rfl, rfl, rfl, rfl, trivial⟩
      refine GL.val trivial rfl (OV.move (v := .bool ((decide (((c23.toNat : Int) : Int) ≥ 97)) && (decide (((c23.toNat : Int) : Int) ≤ 122)))) rfl) ?_
      refine GL.cut0 7 [(43, .bool (((decide (((c23.toNat : Int) : Int) ≥ 97)) && (decide (((c23.toNat : Int) : Int) ≤ 122))) || ((decide (((c23.toNat : Int) : Int) ≥ 65)) && (decide (((c23.toNat : Int) : Int) ≤ 90))))), (0, sv p_s), (4, .int .u8 (c23.toNat : Int)), (23, .int .i64 (List.length p_s : Int)), (24, .int .i64 x19)] ?_ ?_
      · rcases Bool.eq_false_or_eq_true ((decide (((c23.toNat : Int) : Int) ≥ 97)) && (decide (((c23.toNat : Int) : Int) ≤ 122))) with hc27 | hc27
        · skip
          refine GL.skip ⟨_, rfl, .inl ⟨_, rfl, hc27⟩⟩ rfl ?_
          refine GL.skip ⟨_, rfl, .inl ⟨_, rfl, hc27⟩⟩ rfl ?_
          refine GL.skip ⟨_, rfl, .inl ⟨_, rfl, hc27⟩⟩ rfl ?_
          refine GL.skip ⟨_, rfl, .inr rfl⟩ rfl ?_
          refine GL.skip ⟨_, rfl, .inr rfl⟩ rfl ?_
          refine GL.skip ⟨_, rfl, .inl ⟨_, rfl, hc27⟩⟩ rfl ?_
          refine GL.val trivial rfl (OV.pickT (b := (decide (((c23.toNat : Int) : Int) ≥ 97)) && (decide (((c23.toNat : Int) : Int) ≤ 122))) (v := .bool true) rfl hc27 rfl) ?_
          exact GL.jump0 (fun _ _ h => h) () rfl ⟨(by rw [hc27]; rfl), rfl, rfl, rfl, rfl, trivial⟩
        · skip
          refine GL.val ⟨_, _, rfl, rfl, hc27⟩ rfl (OV.move (v := .int .u8 (c23.toNat : Int)) rfl) ?_
          refine GL.val ⟨_, _, rfl, rfl, hc27⟩ rfl (OV.ibin (v := .bool (decide (((c23.toNat : Int) : Int) ≥ 65))) rfl rfl rfl) ?_
          refine GL.val ⟨_, _, rfl, rfl, hc27⟩ rfl (OV.move (v := .bool (decide (((c23.toNat : Int) : Int) ≥ 65))) rfl) ?_
          refine GL.cut0 3 [(42, .bool ((decide (((c23.toNat : Int) : Int) ≥ 65)) && (decide (((c23.toNat : Int) : Int) ≤ 90)))), (0, sv p_s), (4, .int .u8 (c23.toNat : Int)), (23, .int .i64 (List.length p_s : Int)), (24, .int .i64 x19), (36, .bool ((decide (((c23.toNat : Int) : Int) ≥ 97)) && (decide (((c23.toNat : Int) : Int) ≤ 122))))] ?_ ?_
          · rcases Bool.eq_false_or_eq_true (decide (((c23.toNat : Int) : Int) ≥ 65)) with hc28 | hc28
            · skip
              refine GL.val ⟨_, _, rfl, rfl, hc28⟩ rfl (OV.move (v := .int .u8 (c23.toNat : Int)) rfl) ?_
              refine GL.val ⟨_, _, rfl, rfl, hc28⟩ rfl (OV.ibin (v := .bool (decide (((c23.toNat : Int) : Int) ≤ 90))) rfl rfl rfl) ?_
              refine GL.val ⟨_, _, rfl, rfl, hc27⟩ rfl (OV.pickT (b := decide (((c23.toNat : Int) : Int) ≥ 65)) (v := .bool (decide (((c23.toNat : Int) : Int) ≤ 90))) rfl hc28 rfl) ?_
              exact GL.jump0 (fun _ _ h => h) () rfl ⟨(by rw [hc28]; rfl), rfl, rfl, rfl, rfl, rfl, trivial⟩
            · skip
              refine GL.skip ⟨_, rfl, .inl ⟨_, rfl, hc28⟩⟩ rfl ?_
              refine GL.skip ⟨_, rfl, .inl ⟨_, rfl, hc28⟩⟩ rfl ?_
              refine GL.val ⟨_, _, rfl, rfl, hc27⟩ rfl (OV.pickF (b := decide (((c23.toNat : Int) : Int) ≥ 65)) (v := .bool false) rfl hc28 rfl) ?_
              exact GL.jump0 (fun _ _ h => h) () rfl ⟨(by rw [hc28]; rfl), rfl, rfl, rfl, rfl, rfl, trivial⟩
          refine GL.val trivial rfl (OV.pickF (b := (decide (((c23.toNat : Int) : Int) ≥ 97)) && (decide (((c23.toNat : Int) : Int) ≤ 122))) (v := .bool ((decide (((c23.toNat : Int) : Int) ≥ 65)) && (decide (((c23.toNat : Int) : Int) ≤ 90)))) rfl hc27 rfl) ?_
          exact GL.jump0 (fun _ _ h => h) () rfl ⟨(by rw [hc27]; rfl), rfl, rfl, rfl, rfl, trivial⟩
      refine GL.val trivial rfl (OV.move (v := .bool (((decide (((c23.toNat : Int) : Int) ≥ 97)) && (decide (((c23.toNat : Int) : Int) ≤ 122))) || ((decide (((c23.toNat : Int) : Int) ≥ 65)) && (decide (((c23.toNat : Int) : Int) ≤ 90))))) rfl) ?_
      refine GL.cut0 7 [(51, .bool ((((decide (((c23.toNat : Int) : Int) ≥ 97)) && (decide (((c23.toNat : Int) : Int) ≤ 122))) || ((decide (((c23.toNat : Int) : Int) ≥ 65)) && (decide (((c23.toNat : Int) : Int) ≤ 90)))) || ((decide (((c23.toNat : Int) : Int) ≥ 48)) && (decide (((c23.toNat : Int) : Int) ≤ 57))))), (0, sv p_s), (4, .int .u8 (c23.toNat : Int)), (23, .int .i64 (List.length p_s : Int)), (24, .int .i64 x19)] ?_ ?_
      · rcases Bool.eq_false_or_eq_true (((decide (((c23.toNat : Int) : Int) ≥ 97)) && (decide (((c23.toNat : Int) : Int) ≤ 122))) || ((decide (((c23.toNat : Int) : Int) ≥ 65)) && (decide (((c23.toNat : Int) : Int) ≤ 90)))) with hc29 | hc29
        · skip
          refine GL.skip ⟨_, rfl, .inl ⟨_, rfl, hc29⟩⟩ rfl ?_
          refine GL.skip ⟨_, rfl, .inl ⟨_, rfl, hc29⟩⟩ rfl ?_
          refine GL.skip ⟨_, rfl, .inl ⟨_, rfl, hc29⟩⟩ rfl ?_
          refine GL.skip ⟨_, rfl, .inr rfl⟩ rfl ?_
          refine GL.skip ⟨_, rfl, .inr rfl⟩ rfl ?_
          refine GL.skip ⟨_, rfl, .inl ⟨_, rfl, hc29⟩⟩ rfl ?_
          refine GL.val trivial rfl (OV.pickT (b := ((decide (((c23.toNat : Int) : Int) ≥ 97)) && (decide (((c23.toNat : Int) : Int) ≤ 122))) || ((decide (((c23.toNat : Int) : Int) ≥ 65)) && (decide (((c23.toNat : Int) : Int) ≤ 90)))) (v := .bool true) rfl hc29 rfl) ?_
          exact GL.jump0 (fun _ _ h => h) () rfl ⟨(by rw [hc29]; rfl), rfl, rfl, rfl, rfl, trivial⟩
        · skip
          refine GL.val ⟨_, _, rfl, rfl, hc29⟩ rfl (OV.move (v := .int .u8 (c23.toNat : Int)) rfl) ?_
          refine GL.val ⟨_, _, rfl, rfl, hc29⟩ rfl (OV.ibin (v := .bool (decide (((c23.toNat : Int) : Int) ≥ 48))) rfl rfl rfl) ?_
          refine GL.val ⟨_, _, rfl, rfl, hc29⟩ rfl (OV.move (v := .bool (decide (((c23.toNat : Int) : Int) ≥ 48))) rfl) ?_
          refine GL.cut0 3 [(50, .bool ((decide (((c23.toNat : Int) : Int) ≥ 48)) && (decide (((c23.toNat : Int) : Int) ≤ 57)))), (0, sv p_s), (4, .int .u8 (c23.toNat : Int)), (23, .int .i64 (List.length p_s : Int)), (24, .int .i64 x19), (44, .bool (((decide (((c23.toNat : Int) : Int) ≥ 97)) && (decide (((c23.toNat : Int) : Int) ≤ 122))) || ((decide (((c23.toNat : Int) : Int) ≥ 65)) && (decide (((c23.toNat : Int) : Int) ≤ 90)))))] ?_ ?_
          · rcases Bool.eq_false_or_eq_true (decide (((c23.toNat : Int) : Int) ≥ 48)) with hc30 | hc30
            · skip
              refine GL.val ⟨_, _, rfl, rfl, hc30⟩ rfl (OV.move (v := .int .u8 (c23.toNat : Int)) rfl) ?_
              refine GL.val ⟨_, _, rfl, rfl, hc30⟩ rfl (OV.ibin (v := .bool (decide (((c23.toNat : Int) : Int) ≤ 57))) rfl rfl rfl) ?_
              refine GL.val ⟨_, _, rfl, rfl, hc29⟩ rfl (OV.pickT (b := decide (((c23.toNat : Int) : Int) ≥ 48)) (v := .bool (decide (((c23.toNat : Int) : Int) ≤ 57))) rfl hc30 rfl) ?_
              exact GL.jump0 (fun _ _ h => h) () rfl ⟨(by rw [hc30]; rfl), rfl, rfl, rfl, rfl, rfl, trivial⟩
            · skip
              refine GL.skip ⟨_, rfl, .inl ⟨_, rfl, hc30⟩⟩ rfl ?_
              refine GL.skip ⟨_, rfl, .inl ⟨_, rfl, hc30⟩⟩ rfl ?_
              refine GL.val ⟨_, _, rfl, rfl, hc29⟩ rfl (OV.pickF (b := decide (((c23.toNat : Int) : Int) ≥ 48)) (v := .bool false) rfl hc30 rfl) ?_
              exact GL.jump0 (fun _ _ h => h) () rfl ⟨(by rw [hc30]; rfl), rfl, rfl, rfl, rfl, rfl, trivial⟩
          refine GL.val trivial rfl (OV.pickF (b := ((decide (((c23.toNat : Int) : Int) ≥ 97)) && (decide (((c23.toNat : Int) : Int) ≤ 122))) || ((decide (((c23.toNat : Int) : Int) ≥ 65)) && (decide (((c23.toNat : Int) : Int) ≤ 90)))) (v := .bool ((decide (((c23.toNat : Int) : Int) ≥ 48)) && (decide (((c23.toNat : Int) : Int) ≤ 57)))) rfl hc29 rfl) ?_
          exact GL.jump0 (fun _ _ h => h) () rfl ⟨(by rw [hc29]; rfl), rfl, rfl, rfl, rfl, trivial⟩
      refine GL.val trivial rfl (OV.move (v := .bool ((((decide (((c23.toNat : Int) : Int) ≥ 97)) && (decide (((c23.toNat : Int) : Int) ≤ 122))) || ((decide (((c23.toNat : Int) : Int) ≥ 65)) && (decide (((c23.toNat : Int) : Int) ≤ 90)))) || ((decide (((c23.toNat : Int) : Int) ≥ 48)) && (decide (((c23.toNat : Int) : Int) ≤ 57))))) rfl) ?_
      refine GL.cut0 3 [(55, .bool (((((decide (((c23.toNat : Int) : Int) ≥ 97)) && (decide (((c23.toNat : Int) : Int) ≤ 122))) || ((decide (((c23.toNat : Int) : Int) ≥ 65)) && (decide (((c23.toNat : Int) : Int) ≤ 90)))) || ((decide (((c23.toNat : Int) : Int) ≥ 48)) && (decide (((c23.toNat : Int) : Int) ≤ 57)))) || (((c23.toNat : Int) : Int) == 95))), (0, sv p_s), (23, .int .i64 (List.length p_s : Int)), (24, .int .i64 x19)] ?_ ?_
      · rcases Bool.eq_false_or_eq_true ((((decide (((c23.toNat : Int) : Int) ≥ 97)) && (decide (((c23.toNat : Int) : Int) ≤ 122))) || ((decide (((c23.toNat : Int) : Int) ≥ 65)) && (decide (((c23.toNat : Int) : Int) ≤ 90)))) || ((decide (((c23.toNat : Int) : Int) ≥ 48)) && (decide (((c23.toNat : Int) : Int) ≤ 57)))) with hc31 | hc31
        · skip
          refine GL.skip ⟨_, rfl, .inl ⟨_, rfl, hc31⟩⟩ rfl ?_
          refine GL.skip ⟨_, rfl, .inl ⟨_, rfl, hc31⟩⟩ rfl ?_
          refine GL.val trivial rfl (OV.pickT (b := (((decide (((c23.toNat : Int) : Int) ≥ 97)) && (decide (((c23.toNat : Int) : Int) ≤ 122))) || ((decide (((c23.toNat : Int) : Int) ≥ 65)) && (decide (((c23.toNat : Int) : Int) ≤ 90)))) || ((decide (((c23.toNat : Int) : Int) ≥ 48)) && (decide (((c23.toNat : Int) : Int) ≤ 57)))) (v := .bool true) rfl hc31 rfl) ?_
          exact GL.jump0 (fun _ _ h => h) () rfl ⟨(by rw [hc31]; rfl), rfl, rfl, rfl, trivial⟩
        · skip
          refine GL.val ⟨_, _, rfl, rfl, hc31⟩ rfl (OV.move (v := .int .u8 (c23.toNat : Int)) rfl) ?_
          refine GL.val ⟨_, _, rfl, rfl, hc31⟩ rfl (OV.ibin (v := .bool (((c23.toNat : Int) : Int) == 95)) rfl rfl rfl) ?_
          refine GL.val trivial rfl (OV.pickF (b := (((decide (((c23.toNat : Int) : Int) ≥ 97)) && (decide (((c23.toNat : Int) : Int) ≤ 122))) || ((decide (((c23.toNat : Int) : Int) ≥ 65)) && (decide (((c23.toNat : Int) : Int) ≤ 90)))) || ((decide (((c23.toNat : Int) : Int) ≥ 48)) && (decide (((c23.toNat : Int) : Int) ≤ 57)))) (v := .bool (((c23.toNat : Int) : Int) == 95)) rfl hc31 rfl) ?_
          exact GL.jump0 (fun _ _ h => h) () rfl ⟨(by rw [hc31]; rfl), rfl, rfl, rfl, trivial⟩
      refine GL.val trivial rfl (OV.not rfl) ?_
      refine GL.nil ?_
      refine GC.cond (b := !(((((decide (((c23.toNat : Int) : Int) ≥ 97)) && (decide (((c23.toNat : Int) : Int) ≤ 122))) || ((decide (((c23.toNat : Int) : Int) ≥ 65)) && (decide (((c23.toNat : Int) : Int) ≤ 90)))) || ((decide (((c23.toNat : Int) : Int) ≥ 48)) && (decide (((c23.toNat : Int) : Int) ≤ 57)))) || (((c23.toNat : Int) : Int) == 95))) rfl (fun hc32 => ?_) (fun hc32 => ?_)
      · replace h := And.left h hc32
        refine GC.seq ?_
        refine GC.region ?_
        refine GL.val trivial rfl (OV.assign (v := .bool false) rfl) ?_
        refine GL.nil ?_
        exact GC.ret (fun _ _ hf hs => post_tmp1 rfl rfl hf hs ⟨false, rfl, h⟩)
      · replace h := And.right h hc32
        refine GC.skip_to (fun _ _ h => h) ?_
        refine GC.region ?_
        refine GL.val trivial rfl (OV.ibin (v := .int .i64 (w .i64 (x19 + 1))) rfl rfl rfl) ?_
        refine GL.val trivial rfl (OV.move (v := .int .i64 (w .i64 (x19 + 1))) rfl) ?_
        exact GL.jump (fun _ _ h => h) (w .i64 (x19 + 1)) h ⟨rfl, rfl, rfl, trivial⟩
    · replace h := And.right h hc22
      refine GC.exit_to (fun _ _ h => h) ?_
      refine GC.seq ?_
      refine GC.region ?_
      refine GL.val trivial rfl (OV.assign (v := .bool true) rfl) ?_
      refine GL.nil ?_
      exact GC.ret (fun _ _ hf hs => post_tmp1 rfl rfl hf hs ⟨true, rfl, h⟩)

def sh_strings_TrimPrefix (C : Ctx) (p_s : Str) (p_prefix : Str) (K : Str → Heap → Prop) (H : Heap) : Prop :=
  c_internal_stringslite_TrimPrefix C p_s p_prefix (fun r1 H2 =>
 K r1 H2) H

theorem ad_strings_TrimPrefix (C : Ctx) (p_s : Str) (p_prefix : Str) (K : Str → Heap → Prop) (H : Heap) (h : sh_strings_TrimPrefix C p_s p_prefix K H) : c_strings_TrimPrefix C p_s p_prefix K H := by
  refine Spec.enter Tryd.func96 rfl Tryd.ntmps96 rfl ?_
  refine GC.sub [(0, sv p_s), (1, sv p_prefix)] ⟨rfl, rfl, trivial⟩ ?_
  refine GC.seq ?_
  refine GC.region ?_
  refine GL.val trivial rfl (OV.assign (v := sv []) rfl) ?_
  refine GL.nil ?_
  refine GC.seq ?_
  refine GC.region ?_
  refine GL.val trivial rfl (OV.move (v := sv p_s) rfl) ?_
  refine GL.val trivial rfl (OV.move (v := sv p_prefix) rfl) ?_
  refine GL.call h trivial rfl ok_internal_stringslite_TrimPrefix (vs := [sv p_s, sv p_prefix]) rfl ?_
  rintro _ H2 ⟨r1, rfl, h⟩
  refine GL.val trivial rfl (OV.assign (v := sv r1) rfl) ?_
  refine GL.nil ?_
  exact GC.ret (fun _ _ hf hs => post_tmp1 rfl rfl hf hs ⟨r1, rfl, h⟩)

def sh_strings_Trim (C : Ctx) (p_s : Str) (p_cutset : Str) (K : Str → Heap → Prop) (H : Heap) : Prop :=
  ift ((p_s == ([] : Str)) || (p_cutset == ([] : Str)))
 (K p_s H)
 (jn (α := Bool) (fun b3 H10 =>
 ift b3
 (dr H10 fun Hs12 =>
 ixs p_cutset 0 fun c14 =>
 ixs p_cutset 0 fun c17 =>
 c_strings_trimRightByte C p_s (c14.toNat : Int) (fun r21 H22 =>
 Heap.le Hs12 H22 ∧
 c_strings_trimLeftByte C r21 (c17.toNat : Int) (fun r24 H25 =>
 Heap.le Hs12 H25 ∧
 K r24 H25) H22) H10)
 (c_strings_makeASCIISet C p_cutset (fun r26 r27 H28 =>
 nw ((List.replicate 256 (.bool false : Value))) (fun b29 H30 =>
 stC 256 (b29, 0) r26 (fun H31 =>
 ift r27
 (c_strings_trimRightASCII C p_s (some (b29, 0)) (fun r35 H36 =>
 c_strings_trimLeftASCII C r35 (some (b29, 0)) (fun r37 H38 =>
 K r37 H38) H36) H31)
 (c_strings_trimRightUnicode C p_s p_cutset (fun r39 H40 =>
 c_strings_trimLeftUnicode C r39 p_cutset (fun r41 H42 =>
 K r41 H42) H40) H31)) H30) H28) H10))
 (fun J4 => ift (((List.length p_cutset : Int) : Int) == 1)
 (ixs p_cutset 0 fun c7 =>
 J4 (decide (((c7.toNat : Int) : Int) < 128)) H)
 (J4 false H)))

theorem ad_strings_Trim (C : Ctx) (p_s : Str) (p_cutset : Str) (K : Str → Heap → Prop) (H : Heap) (h : sh_strings_Trim C p_s p_cutset K H) : c_strings_Trim C p_s p_cutset K H := by
  refine Spec.enter Tryd.func97 rfl Tryd.ntmps97 rfl ?_
  refine GC.sub [(0, sv p_s), (1, sv p_cutset)] ⟨rfl, rfl, trivial⟩ ?_
  refine GC.seq ?_
  refine GC.region ?_
  refine GL.val trivial rfl (OV.assign (v := sv []) rfl) ?_
  refine GL.nil ?_
  refine GC.seq ?_
  refine GC.seq ?_
  refine GC.region ?_
  refine GL.val trivial rfl (OV.move (v := sv p_s) rfl) ?_
  refine GL.val trivial rfl (OV.sbin (a := p_s) (b := ([] : Str)) (v := .bool (p_s == ([] : Str))) rfl rfl rfl) ?_
  refine GL.val trivial rfl (OV.move (v := .bool (p_s == ([] : Str))) rfl) ?_
  refine GL.cut0 3 [(12, .bool ((p_s == ([] : Str)) || (p_cutset == ([] : Str)))), (0, sv p_s), (1, sv p_cutset)] ?_ ?_
  · rcases Bool.eq_false_or_eq_true (p_s == ([] : Str)) with hc1 | hc1
    · skip
      refine GL.skip ⟨_, rfl, .inl ⟨_, rfl, hc1⟩⟩ rfl ?_
      refine GL.skip ⟨_, rfl, .inl ⟨_, rfl, hc1⟩⟩ rfl ?_
      refine GL.val trivial rfl (OV.pickT (b := p_s == ([] : Str)) (v := .bool true) rfl hc1 rfl) ?_
      exact GL.jump0 (fun _ _ h => h) () rfl ⟨(by rw [hc1]; rfl), rfl, rfl, trivial⟩
    · skip
      refine GL.val ⟨_, _, rfl, rfl, hc1⟩ rfl (OV.move (v := sv p_cutset) rfl) ?_
      refine GL.val ⟨_, _, rfl, rfl, hc1⟩ rfl (OV.sbin (a := p_cutset) (b := ([] : Str)) (v := .bool (p_cutset == ([] : Str))) rfl rfl rfl) ?_
      refine GL.val trivial rfl (OV.pickF (b := p_s == ([] : Str)) (v := .bool (p_cutset == ([] : Str))) rfl hc1 rfl) ?_
      exact GL.jump0 (fun _ _ h => h) () rfl ⟨(by rw [hc1]; rfl), rfl, rfl, trivial⟩
  refine GL.nil ?_
  refine GC.cond (b := (p_s == ([] : Str)) || (p_cutset == ([] : Str))) rfl (fun hc2 => ?_) (fun hc2 => ?_)
  · replace h := And.left h hc2
    refine GC.seq ?_
    refine GC.region ?_
    refine GL.val trivial rfl (OV.move (v := sv p_s) rfl) ?_
    refine GL.val trivial rfl (OV.assign (v := sv p_s) rfl) ?_
    refine GL.nil ?_
    exact GC.ret (fun _ _ hf hs => post_tmp1 rfl rfl hf hs ⟨p_s, rfl, h⟩)
  · replace h := And.right h hc2
    refine GC.skip ?_
    refine GC.seq ?_
    refine GC.seq ?_
    refine GC.region ?_
    refine GL.val trivial rfl (OV.move (v := sv p_cutset) rfl) ?_
    refine GL.val trivial rfl (OV.lenStr (s := p_cutset) rfl rfl) ?_
    refine GL.val trivial rfl (OV.ibin (v := .bool (((List.length p_cutset : Int) : Int) == 1)) rfl rfl rfl) ?_
    refine GL.val trivial rfl (OV.move (v := .bool (((List.length p_cutset : Int) : Int) == 1)) rfl) ?_
    obtain ⟨J4, h, hR5⟩ := h
    refine GL.cut (α := Bool) 4 J4 (fun b3 => [(21, .bool b3), (0, sv p_s), (1, sv p_cutset)]) ?_ ?_
    · rcases Bool.eq_false_or_eq_true (((List.length p_cutset : Int) : Int) == 1) with hc6 | hc6
      · skip
        replace h := And.left h hc6
        refine GL.val ⟨_, _, rfl, rfl, hc6⟩ rfl (OV.move (v := sv p_cutset) rfl) ?_
        obtain ⟨c7, ha8, hb9, h⟩ := h
        refine GL.val ⟨_, _, rfl, rfl, hc6⟩ rfl (OV.indexStr (s := p_cutset) rfl rfl rfl ha8 hb9) ?_
        refine GL.val ⟨_, _, rfl, rfl, hc6⟩ rfl (OV.ibin (v := .bool (decide (((c7.toNat : Int) : Int) < 128))) rfl rfl rfl) ?_
        refine GL.val trivial rfl (OV.pickT (b := ((List.length p_cutset : Int) : Int) == 1) (v := .bool (decide (((c7.toNat : Int) : Int) < 128))) rfl hc6 rfl) ?_
        exact GL.jump (fun _ _ h => h) (decide (((c7.toNat : Int) : Int) < 128)) h ⟨rfl, rfl, rfl, trivial⟩
      · skip
        replace h := And.right h hc6
        refine GL.skip ⟨_, rfl, .inl ⟨_, rfl, hc6⟩⟩ rfl ?_
        refine GL.skip ⟨_, rfl, .inl ⟨_, rfl, hc6⟩⟩ rfl ?_
        refine GL.skip ⟨_, rfl, .inl ⟨_, rfl, hc6⟩⟩ rfl ?_
        refine GL.val trivial rfl (OV.pickF (b := ((List.length p_cutset : Int) : Int) == 1) (v := .bool false) rfl hc6 rfl) ?_
        exact GL.jump (fun _ _ h => h) false h ⟨rfl, rfl, rfl, trivial⟩
    intro b3 H10 h
    replace h := hR5 b3 H10 h
    refine GL.nil ?_
    refine GC.cond (b := b3) rfl (fun hc11 => ?_) (fun hc11 => ?_)
    · replace h := And.left h hc11
      refine GC.seq ?_
      obtain ⟨Hs12, hle13, h⟩ := h
      refine GC.any (Hs := Hs12) (by kernel_rfl) hle13 ?_
      refine GA.take 0 rfl (by kernel_rfl) (by kernel_rfl) (by kernel_rfl) (fun _ _ _ h => False.elim h) trivial rfl (OV.move (v := sv p_s) rfl) ?_
      refine GA.take 1 rfl (by kernel_rfl) (by kernel_rfl) (by kernel_rfl) (fun _ _ _ h => False.elim h) trivial rfl (OV.move (v := sv p_cutset) rfl) ?_
      obtain ⟨c14, ha15, hb16, h⟩ := h
      refine GA.take 2 rfl (by kernel_rfl) (by kernel_rfl) (by kernel_rfl) (fun _ _ _ h => False.elim h) trivial rfl (OV.indexStr (s := p_cutset) rfl rfl rfl ha15 hb16) ?_
      refine GA.take 4 rfl (by kernel_rfl) (by kernel_rfl) (by kernel_rfl) (fun _ _ _ h => False.elim h) trivial rfl (OV.move (v := sv p_cutset) rfl) ?_
      obtain ⟨c17, ha18, hb19, h⟩ := h
      refine GA.take 5 rfl (by kernel_rfl) (by kernel_rfl) (by kernel_rfl) (fun _ _ _ h => False.elim h) trivial rfl (OV.indexStr (s := p_cutset) rfl rfl rfl ha18 hb19) ?_
      refine GA.eff 3 rfl (by kernel_rfl) ?_
      refine GL.call h trivial rfl ok_strings_trimRightByte (vs := [sv p_s, .int .u8 (c14.toNat : Int)]) rfl ?_
      rintro _ H22 ⟨r21, rfl, h⟩
      obtain ⟨hle20, h⟩ := h
      refine GA.back hle20 ?_
      refine GA.eff 6 rfl (by kernel_rfl) ?_
      refine GL.call h trivial rfl ok_strings_trimLeftByte (vs := [sv r21, .int .u8 (c17.toNat : Int)]) rfl ?_
      rintro _ H25 ⟨r24, rfl, h⟩
      obtain ⟨hle23, h⟩ := h
      refine GA.back hle23 ?_
      refine GA.take 7 rfl (by kernel_rfl) (by kernel_rfl) (by kernel_rfl) (fun _ _ _ h => False.elim h) trivial rfl (OV.assign (v := sv r24) rfl) ?_
      refine GA.done (by kernel_rfl) ?_
      refine GL.nil ?_
      exact GC.ret (fun _ _ hf hs => post_tmp1 rfl rfl hf hs ⟨r24, rfl, h⟩)
    · replace h := And.right h hc11
      refine GC.skip ?_
      refine GC.seq ?_
      refine GC.seq ?_
      refine GC.region ?_
      refine GL.val trivial rfl (OV.move (v := sv p_cutset) rfl) ?_
      refine GL.call h trivial rfl ok_strings_makeASCIISet (vs := [sv p_cutset]) rfl ?_
      rintro _ H28 ⟨r26, r27, rfl, h⟩
      refine GL.val trivial rfl (OV.move (v := .tuple #[.agg (List.toArray r26), .bool r27]) rfl) ?_
      refine GL.val trivial rfl (OV.extract (v := .agg (List.toArray r26)) rfl rfl) ?_
      refine GL.val trivial rfl (OV.extract (v := .bool r27) rfl rfl) ?_
      refine GL.alloc (cs := (List.replicate 256 (.bool false : Value))) h trivial rfl rfl rfl ?_
      intro b29 H30 h
      obtain ⟨hl32, h133, h⟩ := h
      refine GL.storeT (p := (b29, 0)) (vs := r26) h trivial rfl rfl h133 (by rw [hl32]; rfl) ?_
      intro H31 h
      refine GL.val trivial rfl (OV.assign (v := .bool r27) rfl) ?_
      refine GL.nil ?_
      refine GC.seq ?_
      refine GC.region ?_
      refine GL.val trivial rfl (OV.move (v := .bool r27) rfl) ?_
      refine GL.nil ?_
      refine GC.cond (b := r27) rfl (fun hc34 => ?_) (fun hc34 => ?_)
      · replace h := And.left h hc34
        refine GC.seq ?_
        refine GC.region ?_
        refine GL.val trivial rfl (OV.move (v := sv p_s) rfl) ?_
        refine GL.call h trivial rfl ok_strings_trimRightASCII (vs := [sv p_s, pv (some (b29, 0))]) rfl ?_
        rintro _ H36 ⟨r35, rfl, h⟩
        refine GL.call h trivial rfl ok_strings_trimLeftASCII (vs := [sv r35, pv (some (b29, 0))]) rfl ?_
        rintro _ H38 ⟨r37, rfl, h⟩
        refine GL.val trivial rfl (OV.assign (v := sv r37) rfl) ?_
        refine GL.nil ?_
        exact GC.ret (fun _ _ hf hs => post_tmp1 rfl rfl hf hs ⟨r37, rfl, h⟩)
      · replace h := And.right h hc34
        refine GC.skip ?_
        refine GC.seq ?_
        refine GC.region ?_
        refine GL.val trivial rfl (OV.move (v := sv p_s) rfl) ?_
        refine GL.val trivial rfl (OV.move (v := sv p_cutset) rfl) ?_
        refine GL.call h trivial rfl ok_strings_trimRightUnicode (vs := [sv p_s, sv p_cutset]) rfl ?_
        rintro _ H40 ⟨r39, rfl, h⟩
        refine GL.val trivial rfl (OV.move (v := sv p_cutset) rfl) ?_
        refine GL.call h trivial rfl ok_strings_trimLeftUnicode (vs := [sv r39, sv p_cutset]) rfl ?_
        rintro _ H42 ⟨r41, rfl, h⟩
        refine GL.val trivial rfl (OV.assign (v := sv r41) rfl) ?_
        refine GL.nil ?_
        exact GC.ret (fun _ _ hf hs => post_tmp1 rfl rfl hf hs ⟨r41, rfl, h⟩)

def sh_internal_stringslite_Cut (C : Ctx) (p_s : Str) (p_sep : Str) (K : Str → Str → Bool → Heap → Prop) (H : Heap) : Prop :=
  c_internal_stringslite_Index C p_s p_sep (fun r1 H2 =>
 ift (decide ((r1 : Int) ≥ 0))
 (slS p_s 0 r1 fun t4 =>
 slS p_s (w .i64 (r1 + (List.length p_sep : Int))) (List.length p_s : Int) fun t10 =>
 K t4 t10 true H2)
 (K p_s [] false H2)) H

theorem ad_internal_stringslite_Cut (C : Ctx) (p_s : Str) (p_sep : Str) (K : Str → Str → Bool → Heap → Prop) (H : Heap) (h : sh_internal_stringslite_Cut C p_s p_sep K H) : c_internal_stringslite_Cut C p_s p_sep K H := by
  refine Spec.enter Tryd.func98 rfl Tryd.ntmps98 rfl ?_
  refine GC.sub [(0, sv p_s), (1, sv p_sep)] ⟨rfl, rfl, trivial⟩ ?_
  refine GC.seq ?_
  refine GC.region ?_
  refine GL.val trivial rfl (OV.assign (v := sv []) rfl) ?_
  refine GL.val trivial rfl (OV.assign (v := sv []) rfl) ?_
  refine GL.val trivial rfl (OV.assign (v := .bool false) rfl) ?_
  refine GL.nil ?_
  refine GC.seq ?_
  refine GC.seq ?_
  refine GC.region ?_
  refine GL.val trivial rfl (OV.move (v := sv p_s) rfl) ?_
  refine GL.val trivial rfl (OV.move (v := sv p_sep) rfl) ?_
  refine GL.call h trivial rfl ok_internal_stringslite_Index (vs := [sv p_s, sv p_sep]) rfl ?_
  rintro _ H2 ⟨r1, rfl, h⟩
  refine GL.val trivial rfl (OV.assign (v := .int .i64 r1) rfl) ?_
  refine GL.nil ?_
  refine GC.seq ?_
  refine GC.region ?_
  refine GL.val trivial rfl (OV.move (v := .int .i64 r1) rfl) ?_
  refine GL.val trivial rfl (OV.ibin (v := .bool (decide ((r1 : Int) ≥ 0))) rfl rfl rfl) ?_
  refine GL.nil ?_
  refine GC.cond (b := decide ((r1 : Int) ≥ 0)) rfl (fun hc3 => ?_) (fun hc3 => ?_)
  · replace h := And.left h hc3
    refine GC.seq ?_
    refine GC.draw (by kernel_rfl) (by kernel_rfl) ?_
    refine GQ.val trivial rfl (OV.move (v := sv p_s) rfl) ?_
    refine GQ.val trivial rfl (OV.move (v := .int .i64 r1) rfl) ?_
    obtain ⟨h5, h6, h7, t4, h8, h⟩ := h
    refine GQ.val trivial rfl (OV.sliceStr (s := p_s) h5 h6 h7 h8 rfl rfl rfl rfl rfl rfl) ?_
    refine GQ.val trivial rfl (OV.move (v := sv p_s) rfl) ?_
    refine GQ.val trivial rfl (OV.move (v := .int .i64 r1) rfl) ?_
    refine GQ.val trivial rfl (OV.move (v := sv p_sep) rfl) ?_
    refine GQ.val trivial rfl (OV.lenStr (s := p_sep) rfl rfl) ?_
    refine GQ.val trivial rfl (OV.ibin (v := .int .i64 (w .i64 (r1 + (List.length p_sep : Int)))) rfl rfl rfl) ?_
    obtain ⟨h11, h12, h13, t10, h14, h⟩ := h
    refine GQ.val trivial rfl (OV.sliceStr (s := p_s) h11 h12 h13 h14 rfl rfl rfl rfl rfl rfl) ?_
    refine GQ.val trivial rfl (OV.assign (v := sv t4) rfl) ?_
    refine GQ.val trivial rfl (OV.assign (v := sv t10) rfl) ?_
    refine GQ.val trivial rfl (OV.assign (v := .bool true) rfl) ?_
    refine GQ.nil ?_
    refine GL.nil ?_
    exact GC.ret (fun _ _ hf hs => post_tmp3 rfl rfl rfl rfl hf hs ⟨t4, t10, true, rfl, h⟩)
  · replace h := And.right h hc3
    refine GC.skip ?_
    refine GC.seq ?_
    refine GC.region ?_
    refine GL.val trivial rfl (OV.move (v := sv p_s) rfl) ?_
    refine GL.val trivial rfl (OV.assign (v := sv p_s) rfl) ?_
    refine GL.val trivial rfl (OV.assign (v := sv []) rfl) ?_
    refine GL.val trivial rfl (OV.assign (v := .bool false) rfl) ?_
    refine GL.nil ?_
    exact GC.ret (fun _ _ hf hs => post_tmp3 rfl rfl rfl rfl hf hs ⟨p_s, [], false, rfl, h⟩)

def sh_internal_stringslite_TrimPrefix (C : Ctx) (p_s : Str) (p_prefix : Str) (K : Str → Heap → Prop) (H : Heap) : Prop :=
  c_internal_stringslite_HasPrefix C p_s p_prefix (fun r1 H2 =>
 ift r1
 (slS p_s (List.length p_prefix : Int) (List.length p_s : Int) fun t4 =>
 K t4 H2)
 (K p_s H2)) H

theorem ad_internal_stringslite_TrimPrefix (C : Ctx) (p_s : Str) (p_prefix : Str) (K : Str → Heap → Prop) (H : Heap) (h : sh_internal_stringslite_TrimPrefix C p_s p_prefix K H) : c_internal_stringslite_TrimPrefix C p_s p_prefix K H := by
  refine Spec.enter Tryd.func101 rfl Tryd.ntmps101 rfl ?_
  refine GC.sub [(0, sv p_s), (1, sv p_prefix)] ⟨rfl, rfl, trivial⟩ ?_
  refine GC.seq ?_
  refine GC.region ?_
  refine GL.val trivial rfl (OV.assign (v := sv []) rfl) ?_
  refine GL.nil ?_
  refine GC.seq ?_
  refine GC.seq ?_
  refine GC.region ?_
  refine GL.val trivial rfl (OV.move (v := sv p_s) rfl) ?_
  refine GL.val trivial rfl (OV.move (v := sv p_prefix) rfl) ?_
  refine GL.call h trivial rfl ok_internal_stringslite_HasPrefix (vs := [sv p_s, sv p_prefix]) rfl ?_
  rintro _ H2 ⟨r1, rfl, h⟩
  refine GL.nil ?_
  refine GC.cond (b := r1) rfl (fun hc3 => ?_) (fun hc3 => ?_)
  · replace h := And.left h hc3
    refine GC.seq ?_
    refine GC.region ?_
    refine GL.val trivial rfl (OV.move (v := sv p_s) rfl) ?_
    refine GL.val trivial rfl (OV.move (v := sv p_prefix) rfl) ?_
    refine GL.val trivial rfl (OV.lenStr (s := p_prefix) rfl rfl) ?_
    obtain ⟨h5, h6, h7, t4, h8, h⟩ := h
    refine GL.val trivial rfl (OV.sliceStr (s := p_s) h5 h6 h7 h8 rfl rfl rfl rfl rfl rfl) ?_
    refine GL.val trivial rfl (OV.assign (v := sv t4) rfl) ?_
    refine GL.nil ?_
    exact GC.ret (fun _ _ hf hs => post_tmp1 rfl rfl hf hs ⟨t4, rfl, h⟩)
  · replace h := And.right h hc3
    refine GC.skip ?_
    refine GC.seq ?_
    refine GC.region ?_
    refine GL.val trivial rfl (OV.move (v := sv p_s) rfl) ?_
    refine GL.val trivial rfl (OV.assign (v := sv p_s) rfl) ?_
    refine GL.nil ?_
    exact GC.ret (fun _ _ hf hs => post_tmp1 rfl rfl hf hs ⟨p_s, rfl, h⟩)

def sh_strings_makeASCIISet (C : Ctx) (p_chars : Str) (K : List Value → Bool → Heap → Prop) (H : Heap) : Prop :=
  nw ((List.replicate 256 (.bool false : Value))) (fun b1 H2 =>
 lp (α := Int) 0 H2 (fun x3 J4 H5 =>
 ift (decide ((x3 : Int) < (List.length p_chars : Int)))
 (ixs p_chars x3 fun c7 =>
 ift (decide (((c7.toNat : Int) : Int) ≥ 128))
 (ldC H5 256 (b1, 0) fun x11 =>
 stC 256 (b1, 0) x11 (fun H14 =>
 ldC H14 256 (b1, 0) fun x17 =>
 K x17 false H14) H5)
 (ixr (b1, 0) 256 (c7.toNat : Int) <|
 st ((b1, 0).1, (b1, 0).2 + ((c7.toNat : Int) : Int).toNat * 1) (.bool true) (fun H22 =>
 J4 (w .i64 (x3 + 1)) H22) H5))
 (ldC H5 256 (b1, 0) fun x23 =>
 stC 256 (b1, 0) x23 (fun H26 =>
 ldC H26 256 (b1, 0) fun x29 =>
 K x29 true H26) H5))) H

theorem ad_strings_makeASCIISet (C : Ctx) (p_chars : Str) (K : List Value → Bool → Heap → Prop) (H : Heap) (h : sh_strings_makeASCIISet C p_chars K H) : c_strings_makeASCIISet C p_chars K H := by
  refine Spec.enter Tryd.func104 rfl Tryd.ntmps104 rfl ?_
  refine GC.sub [(0, sv p_chars)] ⟨rfl, trivial⟩ ?_
  refine GC.seq ?_
  refine GC.region ?_
  refine GL.alloc (cs := (List.replicate 256 (.bool false : Value))) h trivial rfl rfl rfl ?_
  intro b1 H2 h
  refine GL.val trivial rfl (OV.assign (v := .bool false) rfl) ?_
  refine GL.nil ?_
  refine GC.seq ?_
  refine GC.seq ?_
  refine GC.region ?_
  refine GL.val trivial rfl (OV.assign (v := .int .i64 0) rfl) ?_
  refine GL.nil ?_
  refine GC.block ?_
  refine GC.loop (α := Int) h (fun x3 => [(4, .int .i64 x3), (0, sv p_chars), (2, pv (some (b1, 0)))]) ⟨rfl, rfl, rfl, trivial⟩ ?_
  intro x3 H5 J4 h
  refine GC.seq ?_
  refine GC.seq ?_
  refine GC.region ?_
  refine GL.val trivial rfl (OV.move (v := .int .i64 x3) rfl) ?_
  refine GL.val trivial rfl (OV.move (v := sv p_chars) rfl) ?_
  refine GL.val trivial rfl (OV.lenStr (s := p_chars) rfl rfl) ?_
  refine GL.val trivial rfl (OV.ibin (v := .bool (decide ((x3 : Int) < (List.length p_chars : Int)))) rfl rfl rfl) ?_
  refine GL.nil ?_
  refine GC.cond (b := decide ((x3 : Int) < (List.length p_chars : Int))) rfl (fun hc6 => ?_) (fun hc6 => ?_)
  · replace h := And.left h hc6
    refine GC.skip ?_
    refine GC.seq ?_
    refine GC.block ?_
    refine GC.seq ?_
    refine GC.region ?_
    refine GL.val trivial rfl (OV.move (v := sv p_chars) rfl) ?_
    refine GL.val trivial rfl (OV.move (v := .int .i64 x3) rfl) ?_
    obtain ⟨c7, ha8, hb9, h⟩ := h
    refine GL.val trivial rfl (OV.indexStr (s := p_chars) rfl rfl rfl ha8 hb9) ?_
    refine GL.val trivial rfl (OV.assign (v := .int .u8 (c7.toNat : Int)) rfl) ?_
    refine GL.nil ?_
    refine GC.seq ?_
    refine GC.seq ?_
    refine GC.region ?_
    refine GL.val trivial rfl (OV.move (v := .int .u8 (c7.toNat : Int)) rfl) ?_
    refine GL.val trivial rfl (OV.ibin (v := .bool (decide (((c7.toNat : Int) : Int) ≥ 128))) rfl rfl rfl) ?_
    refine GL.nil ?_
    refine GC.cond (b := decide (((c7.toNat : Int) : Int) ≥ 128)) rfl (fun hc10 => ?_) (fun hc10 => ?_)
    · replace h := And.left h hc10
      refine GC.seq ?_
      refine GC.region ?_
      obtain ⟨x11, hl13, hr12, h⟩ := h
      refine GL.val trivial rfl (OV.loadT (p := (b1, 0)) (cs := x11) rfl rfl (by rw [hl13]; rfl) hr12) ?_
      obtain ⟨hl15, h116, h⟩ := h
      refine GL.storeT (p := (b1, 0)) (vs := x11) h trivial rfl rfl h116 (by rw [hl15]; rfl) ?_
      intro H14 h
      refine GL.val trivial rfl (OV.assign (v := .bool false) rfl) ?_
      refine GL.nil ?_
      obtain ⟨x17, hl19, hr18, h⟩ := h
      exact GC.ret (fun _ _ hf hs => post_res2 rfl (RV.cellT (p := (b1, 0)) (cs := x17) rfl rfl (by rw [hl19]; rfl) hr18) (RV.tmp rfl) hf hs ⟨x17, false, rfl, h⟩)
    · replace h := And.right h hc10
      refine GC.skip ?_
      refine GC.region ?_
      refine GL.val trivial rfl (OV.move (v := .int .u8 (c7.toNat : Int)) rfl) ?_
      obtain ⟨ha20, hb21, h⟩ := h
      refine GL.val trivial rfl (OV.indexAddrA (p := (b1, 0)) rfl rfl rfl rfl ha20 hb21) ?_
      refine GL.store (p := ((b1, 0).1, (b1, 0).2 + ((c7.toNat : Int) : Int).toNat * 1)) (v := .bool true) h trivial rfl rfl rfl rfl ?_
      intro H22 h
      refine GL.nil_to (fun _ _ h => h) ?_
      refine GC.region ?_
      refine GL.val trivial rfl (OV.move (v := .int .i64 x3) rfl) ?_
      refine GL.val trivial rfl (OV.ibin (v := .int .i64 (w .i64 (x3 + 1))) rfl rfl rfl) ?_
      refine GL.val trivial rfl (OV.assign (v := .int .i64 (w .i64 (x3 + 1))) rfl) ?_
      exact GL.jump (fun _ _ h => h) (w .i64 (x3 + 1)) h ⟨rfl, rfl, rfl, trivial⟩
  · replace h := And.right h hc6
    refine GC.exit_to (fun _ _ h => h) ?_
    refine GC.seq ?_
    refine GC.region ?_
    obtain ⟨x23, hl25, hr24, h⟩ := h
    refine GL.val trivial rfl (OV.loadT (p := (b1, 0)) (cs := x23) rfl rfl (by rw [hl25]; rfl) hr24) ?_
    obtain ⟨hl27, h128, h⟩ := h
    refine GL.storeT (p := (b1, 0)) (vs := x23) h trivial rfl rfl h128 (by rw [hl27]; rfl) ?_
    intro H26 h
    refine GL.val trivial rfl (OV.assign (v := .bool true) rfl) ?_
    refine GL.nil ?_
    obtain ⟨x29, hl31, hr30, h⟩ := h
    exact GC.ret (fun _ _ hf hs => post_res2 rfl (RV.cellT (p := (b1, 0)) (cs := x29) rfl rfl (by rw [hl31]; rfl) hr30) (RV.tmp rfl) hf hs ⟨x29, true, rfl, h⟩)

end Sx
set_option linter.unusedVariables false
set_option maxRecDepth 100000
namespace Sx
open Go Go.Proofs
def sh_strings_trimLeftASCII (C : Ctx) (p_s : Str) (p_as : Option (Nat × Nat)) (K : Str → Heap → Prop) (H : Heap) : Prop :=
  jn (α := Str) (fun x2 H3 =>
 K x2 H3)
 (fun J1 => lp (α := Str) p_s H (fun x5 J6 H7 =>
 ift (decide (((List.length x5 : Int) : Int) > 0))
 (ixs x5 0 fun c9 =>
 c_strings_asciiSet_contains C p_as (c9.toNat : Int) (fun r12 H13 =>
 ift (!r12)
 (J1 x5 H13)
 (slS x5 1 (List.length x5 : Int) fun t15 =>
 J6 t15 H13)) H7)
 (J1 x5 H7)))

theorem ad_strings_trimLeftASCII (C : Ctx) (p_s : Str) (p_as : Option (Nat × Nat)) (K : Str → Heap → Prop) (H : Heap) (h : sh_strings_trimLeftASCII C p_s p_as K H) : c_strings_trimLeftASCII C p_s p_as K H := by
  refine Spec.enter Tryd.func105 rfl Tryd.ntmps105 rfl ?_
  refine GC.sub [(0, sv p_s), (1, pv p_as)] ⟨rfl, rfl, trivial⟩ ?_
  refine GC.seq ?_
  refine GC.region ?_
  refine GL.val trivial rfl (OV.assign (v := sv []) rfl) ?_
  refine GL.nil ?_
  obtain ⟨J1, h, hR4⟩ := h
  refine GC.join (α := Str) J1 (fun x2 => [(0, sv x2)]) ?_ ?_
  · skip
    refine GC.block ?_
    refine GC.loop (α := Str) h (fun x5 => [(0, sv x5), (1, pv p_as)]) ⟨rfl, rfl, trivial⟩ ?_
    intro x5 H7 J6 h
    refine GC.seq ?_
    refine GC.seq ?_
    refine GC.region ?_
    refine GL.val trivial rfl (OV.move (v := sv x5) rfl) ?_
    refine GL.val trivial rfl (OV.lenStr (s := x5) rfl rfl) ?_
    refine GL.val trivial rfl (OV.ibin (v := .bool (decide (((List.length x5 : Int) : Int) > 0))) rfl rfl rfl) ?_
    refine GL.nil ?_
    refine GC.cond (b := decide (((List.length x5 : Int) : Int) > 0)) rfl (fun hc8 => ?_) (fun hc8 => ?_)
    · replace h := And.left h hc8
      refine GC.skip ?_
      refine GC.block ?_
      refine GC.seq ?_
      refine GC.seq ?_
      refine GC.region ?_
      refine GL.val trivial rfl (OV.move (v := pv p_as) rfl) ?_
      refine GL.val trivial rfl (OV.move (v := sv x5) rfl) ?_
      obtain ⟨c9, ha10, hb11, h⟩ := h
      refine GL.val trivial rfl (OV.indexStr (s := x5) rfl rfl rfl ha10 hb11) ?_
      refine GL.call h trivial rfl ok_strings_asciiSet_contains (vs := [pv p_as, .int .u8 (c9.toNat : Int)]) rfl ?_
      rintro _ H13 ⟨r12, rfl, h⟩
      refine GL.val trivial rfl (OV.not rfl) ?_
      refine GL.nil ?_
      refine GC.cond (b := !r12) rfl (fun hc14 => ?_) (fun hc14 => ?_)
      · replace h := And.left h hc14
        exact GC.exit_jump (fun _ _ h => h) x5 h ⟨rfl, trivial⟩
      · replace h := And.right h hc14
        refine GC.skip ?_
        refine GC.region ?_
        refine GL.val trivial rfl (OV.move (v := sv x5) rfl) ?_
        obtain ⟨h16, h17, h18, t15, h19, h⟩ := h
        refine GL.val trivial rfl (OV.sliceStr (s := x5) h16 h17 h18 h19 rfl rfl rfl rfl rfl rfl) ?_
        refine GL.val trivial rfl (OV.assign (v := sv t15) rfl) ?_
        exact GL.jump (fun _ _ h => h) t15 h ⟨rfl, rfl, trivial⟩
    · replace h := And.right h hc8
      exact GC.exit_jump (fun _ _ h => h) x5 h ⟨rfl, trivial⟩
  · intro x2 H3 h
    replace h := hR4 x2 H3 h
    refine GC.seq ?_
    refine GC.region ?_
    refine GL.val trivial rfl (OV.move (v := sv x2) rfl) ?_
    refine GL.val trivial rfl (OV.assign (v := sv x2) rfl) ?_
    refine GL.nil ?_
    exact GC.ret (fun _ _ hf hs => post_tmp1 rfl rfl hf hs ⟨x2, rfl, h⟩)

def sh_strings_trimRightASCII (C : Ctx) (p_s : Str) (p_as : Option (Nat × Nat)) (K : Str → Heap → Prop) (H : Heap) : Prop :=
  jn (α := Str) (fun x2 H3 =>
 K x2 H3)
 (fun J1 => lp (α := Str) p_s H (fun x5 J6 H7 =>
 ift (decide (((List.length x5 : Int) : Int) > 0))
 (ixs x5 (w .i64 ((List.length x5 : Int) - 1)) fun c9 =>
 c_strings_asciiSet_contains C p_as (c9.toNat : Int) (fun r12 H13 =>
 ift (!r12)
 (J1 x5 H13)
 (slS x5 0 (w .i64 ((List.length x5 : Int) - 1)) fun t15 =>
 J6 t15 H13)) H7)
 (J1 x5 H7)))

theorem ad_strings_trimRightASCII (C : Ctx) (p_s : Str) (p_as : Option (Nat × Nat)) (K : Str → Heap → Prop) (H : Heap) (h : sh_strings_trimRightASCII C p_s p_as K H) : c_strings_trimRightASCII C p_s p_as K H := by
  refine Spec.enter Tryd.func106 rfl Tryd.ntmps106 rfl ?_
  refine GC.sub [(0, sv p_s), (1, pv p_as)] ⟨rfl, rfl, trivial⟩ ?_
  refine GC.seq ?_
  refine GC.region ?_
  refine GL.val trivial rfl (OV.assign (v := sv []) rfl) ?_
  refine GL.nil ?_
  obtain ⟨J1, h, hR4⟩ := h
  refine GC.join (α := Str) J1 (fun x2 => [(0, sv x2)]) ?_ ?_
  · skip
    refine GC.block ?_
    refine GC.loop (α := Str) h (fun x5 => [(0, sv x5), (1, pv p_as)]) ⟨rfl, rfl, trivial⟩ ?_
    intro x5 H7 J6 h
    refine GC.seq ?_
    refine GC.seq ?_
    refine GC.region ?_
    refine GL.val trivial rfl (OV.move (v := sv x5) rfl) ?_
    refine GL.val trivial rfl (OV.lenStr (s := x5) rfl rfl) ?_
    refine GL.val trivial rfl (OV.ibin (v := .bool (decide (((List.length x5 : Int) : Int) > 0))) rfl rfl rfl) ?_
    refine GL.nil ?_
    refine GC.cond (b := decide (((List.length x5 : Int) : Int) > 0)) rfl (fun hc8 => ?_) (fun hc8 => ?_)
    · replace h := And.left h hc8
      refine GC.skip ?_
      refine GC.block ?_
      refine GC.seq ?_
      refine GC.seq ?_
      refine GC.region ?_
      refine GL.val trivial rfl (OV.move (v := pv p_as) rfl) ?_
      refine GL.val trivial rfl (OV.move (v := sv x5) rfl) ?_
      refine GL.val trivial rfl (OV.move (v := sv x5) rfl) ?_
      refine GL.val trivial rfl (OV.lenStr (s := x5) rfl rfl) ?_
      refine GL.val trivial rfl (OV.ibin (v := .int .i64 (w .i64 ((List.length x5 : Int) - 1))) rfl rfl rfl) ?_
      obtain ⟨c9, ha10, hb11, h⟩ := h
      refine GL.val trivial rfl (OV.indexStr (s := x5) rfl rfl rfl ha10 hb11) ?_
      refine GL.call h trivial rfl ok_strings_asciiSet_contains (vs := [pv p_as, .int .u8 (c9.toNat : Int)]) rfl ?_
      rintro _ H13 ⟨r12, rfl, h⟩
      refine GL.val trivial rfl (OV.not rfl) ?_
      refine GL.nil ?_
      refine GC.cond (b := !r12) rfl (fun hc14 => ?_) (fun hc14 => ?_)
      · replace h := And.left h hc14
        exact GC.exit_jump (fun _ _ h => h) x5 h ⟨rfl, trivial⟩
      · replace h := And.right h hc14
        refine GC.skip ?_
        refine GC.region ?_
        refine GL.val trivial rfl (OV.move (v := sv x5) rfl) ?_
        refine GL.val trivial rfl (OV.move (v := sv x5) rfl) ?_
        refine GL.val trivial rfl (OV.lenStr (s := x5) rfl rfl) ?_
        refine GL.val trivial rfl (OV.ibin (v := .int .i64 (w .i64 ((List.length x5 : Int) - 1))) rfl rfl rfl) ?_
        obtain ⟨h16, h17, h18, t15, h19, h⟩ := h
        refine GL.val trivial rfl (OV.sliceStr (s := x5) h16 h17 h18 h19 rfl rfl rfl rfl rfl rfl) ?_
        refine GL.val trivial rfl (OV.assign (v := sv t15) rfl) ?_
        exact GL.jump (fun _ _ h => h) t15 h ⟨rfl, rfl, trivial⟩
    · replace h := And.right h hc8
      exact GC.exit_jump (fun _ _ h => h) x5 h ⟨rfl, trivial⟩
  · intro x2 H3 h
    replace h := hR4 x2 H3 h
    refine GC.seq ?_
    refine GC.region ?_
    refine GL.val trivial rfl (OV.move (v := sv x2) rfl) ?_
    refine GL.val trivial rfl (OV.assign (v := sv x2) rfl) ?_
    refine GL.nil ?_
    exact GC.ret (fun _ _ hf hs => post_tmp1 rfl rfl hf hs ⟨x2, rfl, h⟩)

def sh_internal_stringslite_Index (C : Ctx) (p_s : Str) (p_substr : Str) (K : Int → Heap → Prop) (H : Heap) : Prop :=
  ift ((((List.length p_substr : Int) : Int) == 0) || (p_substr == p_s))
 (K 0 H)
 (ift (((List.length p_substr : Int) : Int) == 1)
 (ixs p_substr 0 fun c4 =>
 c_internal_stringslite_IndexByte C p_s (c4.toNat : Int) (fun r7 H8 =>
 K r7 H8) H)
 (ift (decide (((List.length p_substr : Int) : Int) ≥ (List.length p_s : Int)))
 (K (-1) H)
 (ldI H .i64 (0, 0) fun x10 =>
 ift ((decide (((List.length p_substr : Int) : Int) ≤ x10)) && (decide (((List.length p_s : Int) : Int) ≤ 64)))
 (False)
 (ixs p_substr 0 fun c14 =>
 ixs p_substr 1 fun c17 =>
 lp (α := Int × Int) (0, 0) H (fun x20 J21 H22 =>
 ift (decide ((x20.1 : Int) < (w .i64 ((w .i64 ((List.length p_s : Int) - (List.length p_substr : Int))) + 1))))
 (jn (α := Int) (fun x25 H26 =>
 ixs p_s (w .i64 (x25 + 1)) fun c41 =>
 jn (α := Bool) (fun b44 H54 =>
 ift b44
 (K x25 H54)
 (ldI H54 .i64 (0, 0) fun x56 =>
 jn (α := Bool) (fun b58 H64 =>
 ift b58
 (False)
 (ldI H64 .i64 (0, 0) fun x72 =>
 ift (((decide (((List.length p_substr : Int) : Int) > x72)) && (decide (((w .i64 (x20.2 + 1)) : Int) ≥ (w .i64 (4 + (sShr .i64 (w .i64 (x25 + 1)) 4)))))) && (decide (((w .i64 (x25 + 1)) : Int) < (w .i64 ((w .i64 ((List.length p_s : Int) - (List.length p_substr : Int))) + 1)))))
 (slS p_s (w .i64 (x25 + 1)) (List.length p_s : Int) fun t77 =>
 c_internal_bytealg_IndexRabinKarp_string C t77 p_substr (fun r83 H84 =>
 ift (decide ((r83 : Int) < 0))
 (K (-1) H84)
 (K (w .i64 ((w .i64 (x25 + 1)) + r83)) H84)) H64)
 (J21 ((w .i64 (x25 + 1)), (w .i64 (x20.2 + 1))) H64)))
 (fun J59 => ift (decide (((List.length p_substr : Int) : Int) ≤ x56))
 (c_internal_bytealg_Cutover C (w .i64 (x25 + 1)) (fun r62 H63 =>
 J59 (decide (((w .i64 (x20.2 + 1)) : Int) > r62)) H63) H54)
 (J59 false H54))))
 (fun J45 => ift (((c41.toNat : Int) : Int) == (c17.toNat : Int))
 (slS p_s x25 (w .i64 (x25 + (List.length p_substr : Int))) fun t48 =>
 J45 (t48 == p_substr) H26)
 (J45 false H26)))
 (fun J24 => ixs p_s x20.1 fun c28 =>
 ift (((c28.toNat : Int) : Int) != (c14.toNat : Int))
 (slS p_s (w .i64 (x20.1 + 1)) (w .i64 ((w .i64 ((List.length p_s : Int) - (List.length p_substr : Int))) + 1)) fun t32 =>
 c_internal_stringslite_IndexByte C t32 (c14.toNat : Int) (fun r38 H39 =>
 ift (decide ((r38 : Int) < 0))
 (K (-1) H39)
 (J24 (w .i64 (x20.1 + (w .i64 (r38 + 1)))) H39)) H22)
 (J24 x20.1 H22)))
 (K (-1) H22))))))

theorem ad_internal_stringslite_Index (C : Ctx) (p_s : Str) (p_substr : Str) (K : Int → Heap → Prop) (H : Heap) (h : sh_internal_stringslite_Index C p_s p_substr K H) : c_internal_stringslite_Index C p_s p_substr K H := by
  refine Spec.enter Tryd.func109 rfl Tryd.ntmps109 rfl ?_
  refine GC.sub [(0, sv p_s), (1, sv p_substr)] ⟨rfl, rfl, trivial⟩ ?_
  refine GC.seq ?_
  refine GC.region ?_
  refine GL.val trivial rfl (OV.assign (v := .int .i64 0) rfl) ?_
  refine GL.nil ?_
  refine GC.seq ?_
  refine GC.region ?_
  refine GL.val trivial rfl (OV.move (v := sv p_substr) rfl) ?_
  refine GL.val trivial rfl (OV.lenStr (s := p_substr) rfl rfl) ?_
  refine GL.val trivial rfl (OV.assign (v := .int .i64 (List.length p_substr : Int)) rfl) ?_
  refine GL.nil ?_
  refine GC.seq ?_
  refine GC.block ?_
  refine GC.seq ?_
  refine GC.region ?_
  refine GL.val trivial rfl (OV.move (v := .int .i64 (List.length p_substr : Int)) rfl) ?_
  refine GL.val trivial rfl (OV.ibin (v := .bool (((List.length p_substr : Int) : Int) == 0)) rfl rfl rfl) ?_
  refine GL.val trivial rfl (OV.move (v := .bool (((List.length p_substr : Int) : Int) == 0)) rfl) ?_
  refine GL.cut0 4 [(23, .bool ((((List.length p_substr : Int) : Int) == 0) || (p_substr == p_s))), (0, sv p_s), (1, sv p_substr), (5, .int .i64 (List.length p_substr : Int))] ?_ ?_
  · rcases Bool.eq_false_or_eq_true (((List.length p_substr : Int) : Int) == 0) with hc1 | hc1
    · skip
      refine GL.skip ⟨_, rfl, .inl ⟨_, rfl, hc1⟩⟩ rfl ?_
      refine GL.skip ⟨_, rfl, .inl ⟨_, rfl, hc1⟩⟩ rfl ?_
      refine GL.skip ⟨_, rfl, .inl ⟨_, rfl, hc1⟩⟩ rfl ?_
      refine GL.val trivial rfl (OV.pickT (b := ((List.length p_substr : Int) : Int) == 0) (v := .bool true) rfl hc1 rfl) ?_
      exact GL.jump0 (fun _ _ h => h) () rfl ⟨(by rw [hc1]; rfl), rfl, rfl, rfl, trivial⟩
    · skip
      refine GL.val ⟨_, _, rfl, rfl, hc1⟩ rfl (OV.move (v := sv p_substr) rfl) ?_
      refine GL.val ⟨_, _, rfl, rfl, hc1⟩ rfl (OV.move (v := sv p_s) rfl) ?_
      refine GL.val ⟨_, _, rfl, rfl, hc1⟩ rfl (OV.sbin (a := p_substr) (b := p_s) (v := .bool (p_substr == p_s)) rfl rfl rfl) ?_
      refine GL.val trivial rfl (OV.pickF (b := ((List.length p_substr : Int) : Int) == 0) (v := .bool (p_substr == p_s)) rfl hc1 rfl) ?_
      exact GL.jump0 (fun _ _ h => h) () rfl ⟨(by rw [hc1]; rfl), rfl, rfl, rfl, trivial⟩
  refine GL.val trivial rfl (OV.assign (v := .bool ((((List.length p_substr : Int) : Int) == 0) || (p_substr == p_s))) rfl) ?_
  refine GL.nil ?_
  refine GC.cond (b := (((List.length p_substr : Int) : Int) == 0) || (p_substr == p_s)) rfl (fun hc2 => ?_) (fun hc2 => ?_)
  · replace h := And.left h hc2
    refine GC.seq ?_
    refine GC.region ?_
    refine GL.val trivial rfl (OV.assign (v := .int .i64 0) rfl) ?_
    refine GL.nil ?_
    exact GC.ret (fun _ _ hf hs => post_tmp1 rfl rfl hf hs ⟨0, rfl, h⟩)
  · replace h := And.right h hc2
    refine GC.seq ?_
    refine GC.region ?_
    refine GL.val trivial rfl (OV.move (v := .int .i64 (List.length p_substr : Int)) rfl) ?_
    refine GL.val trivial rfl (OV.ibin (v := .bool (((List.length p_substr : Int) : Int) == 1)) rfl rfl rfl) ?_
    refine GL.val trivial rfl (OV.assign (v := .bool (((List.length p_substr : Int) : Int) == 1)) rfl) ?_
    refine GL.nil ?_
    refine GC.cond (b := ((List.length p_substr : Int) : Int) == 1) rfl (fun hc3 => ?_) (fun hc3 => ?_)
    · replace h := And.left h hc3
      refine GC.seq ?_
      refine GC.region ?_
      refine GL.val trivial rfl (OV.move (v := sv p_s) rfl) ?_
      refine GL.val trivial rfl (OV.move (v := sv p_substr) rfl) ?_
      obtain ⟨c4, ha5, hb6, h⟩ := h
      refine GL.val trivial rfl (OV.indexStr (s := p_substr) rfl rfl rfl ha5 hb6) ?_
      refine GL.call h trivial rfl ok_internal_stringslite_IndexByte (vs := [sv p_s, .int .u8 (c4.toNat : Int)]) rfl ?_
      rintro _ H8 ⟨r7, rfl, h⟩
      refine GL.val trivial rfl (OV.assign (v := .int .i64 r7) rfl) ?_
      refine GL.nil ?_
      exact GC.ret (fun _ _ hf hs => post_tmp1 rfl rfl hf hs ⟨r7, rfl, h⟩)
    · replace h := And.right h hc3
      refine GC.seq ?_
      refine GC.region ?_
      refine GL.val trivial rfl (OV.move (v := .int .i64 (List.length p_substr : Int)) rfl) ?_
      refine GL.val trivial rfl (OV.move (v := sv p_s) rfl) ?_
      refine GL.val trivial rfl (OV.lenStr (s := p_s) rfl rfl) ?_
      refine GL.val trivial rfl (OV.ibin (v := .bool (decide (((List.length p_substr : Int) : Int) ≥ (List.length p_s : Int)))) rfl rfl rfl) ?_
      refine GL.val trivial rfl (OV.assign (v := .bool (decide (((List.length p_substr : Int) : Int) ≥ (List.length p_s : Int)))) rfl) ?_
      refine GL.nil ?_
      refine GC.cond (b := decide (((List.length p_substr : Int) : Int) ≥ (List.length p_s : Int))) rfl (fun hc9 => ?_) (fun hc9 => ?_)
      · replace h := And.left h hc9
        refine GC.seq ?_
        refine GC.region ?_
        refine GL.val trivial rfl (OV.assign (v := .int .i64 (-1)) rfl) ?_
        refine GL.nil ?_
        exact GC.ret (fun _ _ hf hs => post_tmp1 rfl rfl hf hs ⟨(-1), rfl, h⟩)
      · replace h := And.right h hc9
        refine GC.seq ?_
        refine GC.region ?_
        refine GL.val trivial rfl (OV.move (v := .int .i64 (List.length p_substr : Int)) rfl) ?_
        obtain ⟨x10, hr11, h⟩ := h
        refine GL.val trivial rfl (OV.load (p := (0, 0)) rfl rfl hr11) ?_
        refine GL.val trivial rfl (OV.ibin (v := .bool (decide (((List.length p_substr : Int) : Int) ≤ x10))) rfl rfl rfl) ?_
        refine GL.val trivial rfl (OV.move (v := .bool (decide (((List.length p_substr : Int) : Int) ≤ x10))) rfl) ?_
        refine GL.cut0 4 [(44, .bool ((decide (((List.length p_substr : Int) : Int) ≤ x10)) && (decide (((List.length p_s : Int) : Int) ≤ 64)))), (0, sv p_s), (1, sv p_substr), (5, .int .i64 (List.length p_substr : Int))] ?_ ?_
        · rcases Bool.eq_false_or_eq_true (decide (((List.length p_substr : Int) : Int) ≤ x10)) with hc12 | hc12
          · skip
            refine GL.val ⟨_, _, rfl, rfl, hc12⟩ rfl (OV.move (v := sv p_s) rfl) ?_
            refine GL.val ⟨_, _, rfl, rfl, hc12⟩ rfl (OV.lenStr (s := p_s) rfl rfl) ?_
            refine GL.val ⟨_, _, rfl, rfl, hc12⟩ rfl (OV.ibin (v := .bool (decide (((List.length p_s : Int) : Int) ≤ 64))) rfl rfl rfl) ?_
            refine GL.val trivial rfl (OV.pickT (b := decide (((List.length p_substr : Int) : Int) ≤ x10)) (v := .bool (decide (((List.length p_s : Int) : Int) ≤ 64))) rfl hc12 rfl) ?_
            exact GL.jump0 (fun _ _ h => h) () rfl ⟨(by rw [hc12]; rfl), rfl, rfl, rfl, trivial⟩
          · skip
            refine GL.skip ⟨_, rfl, .inl ⟨_, rfl, hc12⟩⟩ rfl ?_
            refine GL.skip ⟨_, rfl, .inl ⟨_, rfl, hc12⟩⟩ rfl ?_
            refine GL.skip ⟨_, rfl, .inl ⟨_, rfl, hc12⟩⟩ rfl ?_
            refine GL.val trivial rfl (OV.pickF (b := decide (((List.length p_substr : Int) : Int) ≤ x10)) (v := .bool false) rfl hc12 rfl) ?_
            exact GL.jump0 (fun _ _ h => h) () rfl ⟨(by rw [hc12]; rfl), rfl, rfl, rfl, trivial⟩
        refine GL.val trivial rfl (OV.assign (v := .bool ((decide (((List.length p_substr : Int) : Int) ≤ x10)) && (decide (((List.length p_s : Int) : Int) ≤ 64)))) rfl) ?_
        refine GL.nil ?_
        refine GC.cond (b := (decide (((List.length p_substr : Int) : Int) ≤ x10)) && (decide (((List.length p_s : Int) : Int) ≤ 64))) rfl (fun hc13 => ?_) (fun hc13 => ?_)
        · replace h := And.left h hc13
          refine GC.seq ?_
          exact GC.never h
        · replace h := And.right h hc13
          refine GC.skip_to (fun _ _ h => h) ?_
          refine GC.seq ?_
          refine GC.region ?_
          refine GL.val trivial rfl (OV.move (v := sv p_substr) rfl) ?_
          obtain ⟨c14, ha15, hb16, h⟩ := h
          refine GL.val trivial rfl (OV.indexStr (s := p_substr) rfl rfl rfl ha15 hb16) ?_
          refine GL.val trivial rfl (OV.assign (v := .int .u8 (c14.toNat : Int)) rfl) ?_
          refine GL.nil ?_
          refine GC.seq ?_
          refine GC.region ?_
          refine GL.val trivial rfl (OV.move (v := sv p_substr) rfl) ?_
          obtain ⟨c17, ha18, hb19, h⟩ := h
          refine GL.val trivial rfl (OV.indexStr (s := p_substr) rfl rfl rfl ha18 hb19) ?_
          refine GL.val trivial rfl (OV.assign (v := .int .u8 (c17.toNat : Int)) rfl) ?_
          refine GL.nil ?_
          refine GC.seq ?_
          refine GC.region ?_
          refine GL.val trivial rfl (OV.assign (v := .int .i64 0) rfl) ?_
          refine GL.nil ?_
          refine GC.seq ?_
          refine GC.region ?_
          refine GL.val trivial rfl (OV.move (v := sv p_s) rfl) ?_
          refine GL.val trivial rfl (OV.lenStr (s := p_s) rfl rfl) ?_
          refine GL.val trivial rfl (OV.move (v := .int .i64 (List.length p_substr : Int)) rfl) ?_
          refine GL.val trivial rfl (OV.ibin (v := .int .i64 (w .i64 ((List.length p_s : Int) - (List.length p_substr : Int)))) rfl rfl rfl) ?_
          refine GL.val trivial rfl (OV.ibin (v := .int .i64 (w .i64 ((w .i64 ((List.length p_s : Int) - (List.length p_substr : Int))) + 1))) rfl rfl rfl) ?_
          refine GL.val trivial rfl (OV.assign (v := .int .i64 (w .i64 ((w .i64 ((List.length p_s : Int) - (List.length p_substr : Int))) + 1))) rfl) ?_
          refine GL.nil ?_
          refine GC.seq ?_
          refine GC.region ?_
          refine GL.val trivial rfl (OV.assign (v := .int .i64 0) rfl) ?_
          refine GL.nil ?_
          refine GC.seq ?_
          refine GC.block ?_
          refine GC.loop (α := Int × Int) h (fun x20 => [(8, .int .i64 x20.1), (10, .int .i64 x20.2), (0, sv p_s), (1, sv p_substr), (5, .int .i64 (List.length p_substr : Int)), (6, .int .u8 (c14.toNat : Int)), (7, .int .u8 (c17.toNat : Int)), (9, .int .i64 (w .i64 ((w .i64 ((List.length p_s : Int) - (List.length p_substr : Int))) + 1)))]) ⟨rfl, rfl, rfl, rfl, rfl, rfl, rfl, rfl, trivial⟩ ?_
          intro x20 H22 J21 h
          refine GC.seq ?_
          refine GC.seq ?_
          refine GC.region ?_
          refine GL.val trivial rfl (OV.move (v := .int .i64 x20.1) rfl) ?_
          refine GL.val trivial rfl (OV.move (v := .int .i64 (w .i64 ((w .i64 ((List.length p_s : Int) - (List.length p_substr : Int))) + 1))) rfl) ?_
          refine GL.val trivial rfl (OV.ibin (v := .bool (decide ((x20.1 : Int) < (w .i64 ((w .i64 ((List.length p_s : Int) - (List.length p_substr : Int))) + 1))))) rfl rfl rfl) ?_
          refine GL.nil ?_
          refine GC.cond (b := decide ((x20.1 : Int) < (w .i64 ((w .i64 ((List.length p_s : Int) - (List.length p_substr : Int))) + 1)))) rfl (fun hc23 => ?_) (fun hc23 => ?_)
          · replace h := And.left h hc23
            refine GC.skip ?_
            refine GC.block ?_
            obtain ⟨J24, h, hR27⟩ := h
            refine GC.join (α := Int) J24 (fun x25 => [(8, .int .i64 x25), (0, sv p_s), (1, sv p_substr), (5, .int .i64 (List.length p_substr : Int)), (6, .int .u8 (c14.toNat : Int)), (7, .int .u8 (c17.toNat : Int)), (9, .int .i64 (w .i64 ((w .i64 ((List.length p_s : Int) - (List.length p_substr : Int))) + 1))), (10, .int .i64 x20.2)]) ?_ ?_
            · skip
              refine GC.seq ?_
              refine GC.region ?_
              refine GL.val trivial rfl (OV.move (v := sv p_s) rfl) ?_
              refine GL.val trivial rfl (OV.move (v := .int .i64 x20.1) rfl) ?_
              obtain ⟨c28, ha29, hb30, h⟩ := h
              refine GL.val trivial rfl (OV.indexStr (s := p_s) rfl rfl rfl ha29 hb30) ?_
              refine GL.val trivial rfl (OV.move (v := .int .u8 (c14.toNat : Int)) rfl) ?_
              refine GL.val trivial rfl (OV.ibin (v := .bool (((c28.toNat : Int) : Int) != (c14.toNat : Int))) rfl rfl rfl) ?_
              refine GL.nil ?_
              refine GC.cond (b := ((c28.toNat : Int) : Int) != (c14.toNat : Int)) rfl (fun hc31 => ?_) (fun hc31 => ?_)
              · replace h := And.left h hc31
                refine GC.seq ?_
                refine GC.region ?_
                refine GL.val trivial rfl (OV.move (v := sv p_s) rfl) ?_
                refine GL.val trivial rfl (OV.move (v := .int .i64 x20.1) rfl) ?_
                refine GL.val trivial rfl (OV.ibin (v := .int .i64 (w .i64 (x20.1 + 1))) rfl rfl rfl) ?_
                refine GL.val trivial rfl (OV.move (v := .int .i64 (w .i64 ((w .i64 ((List.length p_s : Int) - (List.length p_substr : Int))) + 1))) rfl) ?_
                obtain ⟨h33, h34, h35, t32, h36, h⟩ := h
                refine GL.val trivial rfl (OV.sliceStr (s := p_s) h33 h34 h35 h36 rfl rfl rfl rfl rfl rfl) ?_
                refine GL.val trivial rfl (OV.move (v := .int .u8 (c14.toNat : Int)) rfl) ?_
                refine GL.call h trivial rfl ok_internal_stringslite_IndexByte (vs := [sv t32, .int .u8 (c14.toNat : Int)]) rfl ?_
                rintro _ H39 ⟨r38, rfl, h⟩
                refine GL.val trivial rfl (OV.assign (v := .int .i64 r38) rfl) ?_
                refine GL.nil ?_
                refine GC.seq ?_
                refine GC.seq ?_
                refine GC.region ?_
                refine GL.val trivial rfl (OV.move (v := .int .i64 r38) rfl) ?_
                refine GL.val trivial rfl (OV.ibin (v := .bool (decide ((r38 : Int) < 0))) rfl rfl rfl) ?_
                refine GL.nil ?_
                refine GC.cond (b := decide ((r38 : Int) < 0)) rfl (fun hc40 => ?_) (fun hc40 => ?_)
                · replace h := And.left h hc40
                  refine GC.seq ?_
                  refine GC.region ?_
                  refine GL.val trivial rfl (OV.assign (v := .int .i64 (-1)) rfl) ?_
                  refine GL.nil ?_
                  exact GC.ret (fun _ _ hf hs => post_tmp1 rfl rfl hf hs ⟨(-1), rfl, h⟩)
                · replace h := And.right h hc40
                  refine GC.skip ?_
                  refine GC.region ?_
                  refine GL.val trivial rfl (OV.move (v := .int .i64 x20.1) rfl) ?_
                  refine GL.val trivial rfl (OV.move (v := .int .i64 r38) rfl) ?_
                  refine GL.val trivial rfl (OV.ibin (v := .int .i64 (w .i64 (r38 + 1))) rfl rfl rfl) ?_
                  refine GL.val trivial rfl (OV.ibin (v := .int .i64 (w .i64 (x20.1 + (w .i64 (r38 + 1))))) rfl rfl rfl) ?_
                  refine GL.val trivial rfl (OV.assign (v := .int .i64 (w .i64 (x20.1 + (w .i64 (r38 + 1))))) rfl) ?_
                  exact GL.jump (fun _ _ h => h) (w .i64 (x20.1 + (w .i64 (r38 + 1)))) h ⟨rfl, rfl, rfl, rfl, rfl, rfl, rfl, rfl, trivial⟩
              · replace h := And.right h hc31
                exact GC.jump (fun _ _ h => h) x20.1 h ⟨rfl, rfl, rfl, rfl, rfl, rfl, rfl, rfl, trivial⟩
            · intro x25 H26 h
              replace h := hR27 x25 H26 h
              refine GC.seq ?_
              refine GC.seq ?_
              refine GC.region ?_
              refine GL.val trivial rfl (OV.move (v := sv p_s) rfl) ?_
              refine GL.val trivial rfl (OV.move (v := .int .i64 x25) rfl) ?_
              refine GL.val trivial rfl (OV.ibin (v := .int .i64 (w .i64 (x25 + 1))) rfl rfl rfl) ?_
              obtain ⟨c41, ha42, hb43, h⟩ := h
              refine GL.val trivial rfl (OV.indexStr (s := p_s) rfl rfl rfl ha42 hb43) ?_
              refine GL.val trivial rfl (OV.move (v := .int .u8 (c17.toNat : Int)) rfl) ?_
              refine GL.val trivial rfl (OV.ibin (v := .bool (((c41.toNat : Int) : Int) == (c17.toNat : Int))) rfl rfl rfl) ?_
              refine GL.val trivial rfl (OV.move (v := .bool (((c41.toNat : Int) : Int) == (c17.toNat : Int))) rfl) ?_
              obtain ⟨J45, h, hR46⟩ := h
              refine GL.cut (α := Bool) 9 J45 (fun b44 => [(93, .bool b44), (0, sv p_s), (1, sv p_substr), (5, .int .i64 (List.length p_substr : Int)), (6, .int .u8 (c14.toNat : Int)), (7, .int .u8 (c17.toNat : Int)), (8, .int .i64 x25), (9, .int .i64 (w .i64 ((w .i64 ((List.length p_s : Int) - (List.length p_substr : Int))) + 1))), (10, .int .i64 x20.2)]) ?_ ?_
              · rcases Bool.eq_false_or_eq_true (((c41.toNat : Int) : Int) == (c17.toNat : Int)) with hc47 | hc47
                · skip
                  replace h := And.left h hc47
                  refine GL.val ⟨_, _, rfl, rfl, hc47⟩ rfl (OV.move (v := sv p_s) rfl) ?_
                  refine GL.val ⟨_, _, rfl, rfl, hc47⟩ rfl (OV.move (v := .int .i64 x25) rfl) ?_
                  refine GL.val ⟨_, _, rfl, rfl, hc47⟩ rfl (OV.move (v := .int .i64 x25) rfl) ?_
                  refine GL.val ⟨_, _, rfl, rfl, hc47⟩ rfl (OV.move (v := .int .i64 (List.length p_substr : Int)) rfl) ?_
                  refine GL.val ⟨_, _, rfl, rfl, hc47⟩ rfl (OV.ibin (v := .int .i64 (w .i64 (x25 + (List.length p_substr : Int)))) rfl rfl rfl) ?_
                  obtain ⟨h49, h50, h51, t48, h52, h⟩ := h
                  refine GL.val ⟨_, _, rfl, rfl, hc47⟩ rfl (OV.sliceStr (s := p_s) h49 h50 h51 h52 rfl rfl rfl rfl rfl rfl) ?_
                  refine GL.val ⟨_, _, rfl, rfl, hc47⟩ rfl (OV.move (v := sv p_substr) rfl) ?_
                  refine GL.val ⟨_, _, rfl, rfl, hc47⟩ rfl (OV.sbin (a := t48) (b := p_substr) (v := .bool (t48 == p_substr)) rfl rfl rfl) ?_
                  refine GL.val trivial rfl (OV.pickT (b := ((c41.toNat : Int) : Int) == (c17.toNat : Int)) (v := .bool (t48 == p_substr)) rfl hc47 rfl) ?_
                  exact GL.jump (fun _ _ h => h) (t48 == p_substr) h ⟨rfl, rfl, rfl, rfl, rfl, rfl, rfl, rfl, rfl, trivial⟩
                · skip
                  replace h := And.right h hc47
                  refine GL.skip ⟨_, rfl, .inl ⟨_, rfl, hc47⟩⟩ rfl ?_
                  refine GL.skip ⟨_, rfl, .inl ⟨_, rfl, hc47⟩⟩ rfl ?_
                  refine GL.skip ⟨_, rfl, .inl ⟨_, rfl, hc47⟩⟩ rfl ?_
                  refine GL.skip ⟨_, rfl, .inl ⟨_, rfl, hc47⟩⟩ rfl ?_
                  refine GL.skip ⟨_, rfl, .inl ⟨_, rfl, hc47⟩⟩ rfl ?_
                  refine GL.skip ⟨_, rfl, .inl ⟨_, rfl, hc47⟩⟩ rfl ?_
                  refine GL.skip ⟨_, rfl, .inl ⟨_, rfl, hc47⟩⟩ rfl ?_
                  refine GL.skip ⟨_, rfl, .inl ⟨_, rfl, hc47⟩⟩ rfl ?_
                  refine GL.val trivial rfl (OV.pickF (b := ((c41.toNat : Int) : Int) == (c17.toNat : Int)) (v := .bool false) rfl hc47 rfl) ?_
                  exact GL.jump (fun _ _ h => h) false h ⟨rfl, rfl, rfl, rfl, rfl, rfl, rfl, rfl, rfl, trivial⟩
              intro b44 H54 h
              replace h := hR46 b44 H54 h
              refine GL.nil ?_
              refine GC.cond (b := b44) rfl (fun hc55 => ?_) (fun hc55 => ?_)
              · replace h := And.left h hc55
                refine GC.seq ?_
                refine GC.region ?_
                refine GL.val trivial rfl (OV.move (v := .int .i64 x25) rfl) ?_
                refine GL.val trivial rfl (OV.assign (v := .int .i64 x25) rfl) ?_
                refine GL.nil ?_
                exact GC.ret (fun _ _ hf hs => post_tmp1 rfl rfl hf hs ⟨x25, rfl, h⟩)
              · replace h := And.right h hc55
                refine GC.skip ?_
                refine GC.seq ?_
                refine GC.region ?_
                refine GL.val trivial rfl (OV.move (v := .int .i64 x25) rfl) ?_
                refine GL.val trivial rfl (OV.ibin (v := .int .i64 (w .i64 (x25 + 1))) rfl rfl rfl) ?_
                refine GL.val trivial rfl (OV.assign (v := .int .i64 (w .i64 (x25 + 1))) rfl) ?_
                refine GL.nil ?_
                refine GC.seq ?_
                refine GC.region ?_
                refine GL.val trivial rfl (OV.move (v := .int .i64 x20.2) rfl) ?_
                refine GL.val trivial rfl (OV.ibin (v := .int .i64 (w .i64 (x20.2 + 1))) rfl rfl rfl) ?_
                refine GL.val trivial rfl (OV.assign (v := .int .i64 (w .i64 (x20.2 + 1))) rfl) ?_
                refine GL.nil ?_
                refine GC.seq ?_
                refine GC.region ?_
                refine GL.val trivial rfl (OV.move (v := .int .i64 (List.length p_substr : Int)) rfl) ?_
                obtain ⟨x56, hr57, h⟩ := h
                refine GL.val trivial rfl (OV.load (p := (0, 0)) rfl rfl hr57) ?_
                refine GL.val trivial rfl (OV.ibin (v := .bool (decide (((List.length p_substr : Int) : Int) ≤ x56))) rfl rfl rfl) ?_
                refine GL.val trivial rfl (OV.move (v := .bool (decide (((List.length p_substr : Int) : Int) ≤ x56))) rfl) ?_
                obtain ⟨J59, h, hR60⟩ := h
                refine GL.cut (α := Bool) 5 J59 (fun b58 => [(107, .bool b58), (0, sv p_s), (1, sv p_substr), (5, .int .i64 (List.length p_substr : Int)), (6, .int .u8 (c14.toNat : Int)), (7, .int .u8 (c17.toNat : Int)), (8, .int .i64 (w .i64 (x25 + 1))), (9, .int .i64 (w .i64 ((w .i64 ((List.length p_s : Int) - (List.length p_substr : Int))) + 1))), (10, .int .i64 (w .i64 (x20.2 + 1)))]) ?_ ?_
                · rcases Bool.eq_false_or_eq_true (decide (((List.length p_substr : Int) : Int) ≤ x56)) with hc61 | hc61
                  · skip
                    replace h := And.left h hc61
                    refine GL.val ⟨_, _, rfl, rfl, hc61⟩ rfl (OV.move (v := .int .i64 (w .i64 (x20.2 + 1))) rfl) ?_
                    refine GL.val ⟨_, _, rfl, rfl, hc61⟩ rfl (OV.move (v := .int .i64 (w .i64 (x25 + 1))) rfl) ?_
                    refine GL.call h ⟨_, _, rfl, rfl, hc61⟩ rfl ok_internal_bytealg_Cutover (vs := [.int .i64 (w .i64 (x25 + 1))]) rfl ?_
                    rintro _ H63 ⟨r62, rfl, h⟩
                    refine GL.val ⟨_, _, rfl, rfl, hc61⟩ rfl (OV.ibin (v := .bool (decide (((w .i64 (x20.2 + 1)) : Int) > r62))) rfl rfl rfl) ?_
                    refine GL.val trivial rfl (OV.pickT (b := decide (((List.length p_substr : Int) : Int) ≤ x56)) (v := .bool (decide (((w .i64 (x20.2 + 1)) : Int) > r62))) rfl hc61 rfl) ?_
                    exact GL.jump (fun _ _ h => h) (decide (((w .i64 (x20.2 + 1)) : Int) > r62)) h ⟨rfl, rfl, rfl, rfl, rfl, rfl, rfl, rfl, rfl, trivial⟩
                  · skip
                    replace h := And.right h hc61
                    refine GL.skip ⟨_, rfl, .inl ⟨_, rfl, hc61⟩⟩ rfl ?_
                    refine GL.skip ⟨_, rfl, .inl ⟨_, rfl, hc61⟩⟩ rfl ?_
                    refine GL.skip ⟨_, rfl, .inl ⟨_, rfl, hc61⟩⟩ rfl ?_
                    refine GL.skip ⟨_, rfl, .inl ⟨_, rfl, hc61⟩⟩ rfl ?_
                    refine GL.val trivial rfl (OV.pickF (b := decide (((List.length p_substr : Int) : Int) ≤ x56)) (v := .bool false) rfl hc61 rfl) ?_
                    exact GL.jump (fun _ _ h => h) false h ⟨rfl, rfl, rfl, rfl, rfl, rfl, rfl, rfl, rfl, trivial⟩
                intro b58 H64 h
                replace h := hR60 b58 H64 h
                refine GL.nil ?_
                refine GC.cond (b := b58) rfl (fun hc65 => ?_) (fun hc65 => ?_)
                · replace h := And.left h hc65
                  refine GC.seq ?_
                  exact GC.never h
                · replace h := And.right h hc65
                  refine GC.seq ?_
                  refine GC.region ?_
                  refine GL.val trivial rfl (OV.move (v := .int .i64 (List.length p_substr : Int)) rfl) ?_
                  obtain ⟨x72, hr73, h⟩ := h
                  refine GL.val trivial rfl (OV.load (p := (0, 0)) rfl rfl hr73) ?_
                  refine GL.val trivial rfl (OV.ibin (v := .bool (decide (((List.length p_substr : Int) : Int) > x72))) rfl rfl rfl) ?_
                  refine GL.val trivial rfl (OV.move (v := .bool (decide (((List.length p_substr : Int) : Int) > x72))) rfl) ?_
                  refine GL.cut0 6 [(127, .bool ((decide (((List.length p_substr : Int) : Int) > x72)) && (decide (((w .i64 (x20.2 + 1)) : Int) ≥ (w .i64 (4 + (sShr .i64 (w .i64 (x25 + 1)) 4))))))), (0, sv p_s), (1, sv p_substr), (5, .int .i64 (List.length p_substr : Int)), (6, .int .u8 (c14.toNat : Int)), (7, .int .u8 (c17.toNat : Int)), (8, .int .i64 (w .i64 (x25 + 1))), (9, .int .i64 (w .i64 ((w .i64 ((List.length p_s : Int) - (List.length p_substr : Int))) + 1))), (10, .int .i64 (w .i64 (x20.2 + 1)))] ?_ ?_
                  · rcases Bool.eq_false_or_eq_true (decide (((List.length p_substr : Int) : Int) > x72)) with hc74 | hc74
                    · skip
                      refine GL.val ⟨_, _, rfl, rfl, hc74⟩ rfl (OV.move (v := .int .i64 (w .i64 (x20.2 + 1))) rfl) ?_
                      refine GL.val ⟨_, _, rfl, rfl, hc74⟩ rfl (OV.move (v := .int .i64 (w .i64 (x25 + 1))) rfl) ?_
                      refine GL.val ⟨_, _, rfl, rfl, hc74⟩ rfl (OV.shr rfl rfl (by decide)) ?_
                      refine GL.val ⟨_, _, rfl, rfl, hc74⟩ rfl (OV.ibin (v := .int .i64 (w .i64 (4 + (sShr .i64 (w .i64 (x25 + 1)) 4)))) rfl rfl rfl) ?_
                      refine GL.val ⟨_, _, rfl, rfl, hc74⟩ rfl (OV.ibin (v := .bool (decide (((w .i64 (x20.2 + 1)) : Int) ≥ (w .i64 (4 + (sShr .i64 (w .i64 (x25 + 1)) 4)))))) rfl rfl rfl) ?_
                      refine GL.val trivial rfl (OV.pickT (b := decide (((List.length p_substr : Int) : Int) > x72)) (v := .bool (decide (((w .i64 (x20.2 + 1)) : Int) ≥ (w .i64 (4 + (sShr .i64 (w .i64 (x25 + 1)) 4)))))) rfl hc74 rfl) ?_
                      exact GL.jump0 (fun _ _ h => h) () rfl ⟨(by rw [hc74]; rfl), rfl, rfl, rfl, rfl, rfl, rfl, rfl, rfl, trivial⟩
                    · skip
                      refine GL.skip ⟨_, rfl, .inl ⟨_, rfl, hc74⟩⟩ rfl ?_
                      refine GL.skip ⟨_, rfl, .inl ⟨_, rfl, hc74⟩⟩ rfl ?_
                      refine GL.skip ⟨_, rfl, .inl ⟨_, rfl, hc74⟩⟩ rfl ?_
                      refine GL.skip ⟨_, rfl, .inl ⟨_, rfl, hc74⟩⟩ rfl ?_
                      refine GL.skip ⟨_, rfl, .inl ⟨_, rfl, hc74⟩⟩ rfl ?_
                      refine GL.val trivial rfl (OV.pickF (b := decide (((List.length p_substr : Int) : Int) > x72)) (v := .bool false) rfl hc74 rfl) ?_
                      exact GL.jump0 (fun _ _ h => h) () rfl ⟨(by rw [hc74]; rfl), rfl, rfl, rfl, rfl, rfl, rfl, rfl, rfl, trivial⟩
                  refine GL.val trivial rfl (OV.move (v := .bool ((decide (((List.length p_substr : Int) : Int) > x72)) && (decide (((w .i64 (x20.2 + 1)) : Int) ≥ (w .i64 (4 + (sShr .i64 (w .i64 (x25 + 1)) 4))))))) rfl) ?_
                  refine GL.cut0 4 [(132, .bool (((decide (((List.length p_substr : Int) : Int) > x72)) && (decide (((w .i64 (x20.2 + 1)) : Int) ≥ (w .i64 (4 + (sShr .i64 (w .i64 (x25 + 1)) 4)))))) && (decide (((w .i64 (x25 + 1)) : Int) < (w .i64 ((w .i64 ((List.length p_s : Int) - (List.length p_substr : Int))) + 1)))))), (0, sv p_s), (1, sv p_substr), (5, .int .i64 (List.length p_substr : Int)), (6, .int .u8 (c14.toNat : Int)), (7, .int .u8 (c17.toNat : Int)), (8, .int .i64 (w .i64 (x25 + 1))), (9, .int .i64 (w .i64 ((w .i64 ((List.length p_s : Int) - (List.length p_substr : Int))) + 1))), (10, .int .i64 (w .i64 (x20.2 + 1)))] ?_ ?_
                  · rcases Bool.eq_false_or_eq_true ((decide (((List.length p_substr : Int) : Int) > x72)) && (decide (((w .i64 (x20.2 + 1)) : Int) ≥ (w .i64 (4 + (sShr .i64 (w .i64 (x25 + 1)) 4)))))) with hc75 | hc75
                    · skip
                      refine GL.val ⟨_, _, rfl, rfl, hc75⟩ rfl (OV.move (v := .int .i64 (w .i64 (x25 + 1))) rfl) ?_
                      refine GL.val ⟨_, _, rfl, rfl, hc75⟩ rfl (OV.move (v := .int .i64 (w .i64 ((w .i64 ((List.length p_s : Int) - (List.length p_substr : Int))) + 1))) rfl) ?_
                      refine GL.val ⟨_, _, rfl, rfl, hc75⟩ rfl (OV.ibin (v := .bool (decide (((w .i64 (x25 + 1)) : Int) < (w .i64 ((w .i64 ((List.length p_s : Int) - (List.length p_substr : Int))) + 1))))) rfl rfl rfl) ?_
                      refine GL.val trivial rfl (OV.pickT (b := (decide (((List.length p_substr : Int) : Int) > x72)) && (decide (((w .i64 (x20.2 + 1)) : Int) ≥ (w .i64 (4 + (sShr .i64 (w .i64 (x25 + 1)) 4)))))) (v := .bool (decide (((w .i64 (x25 + 1)) : Int) < (w .i64 ((w .i64 ((List.length p_s : Int) - (List.length p_substr : Int))) + 1))))) rfl hc75 rfl) ?_
                      exact GL.jump0 (fun _ _ h => h) () rfl ⟨(by rw [hc75]; rfl), rfl, rfl, rfl, rfl, rfl, rfl, rfl, rfl, trivial⟩
                    · skip
                      refine GL.skip ⟨_, rfl, .inl ⟨_, rfl, hc75⟩⟩ rfl ?_
                      refine GL.skip ⟨_, rfl, .inl ⟨_, rfl, hc75⟩⟩ rfl ?_
                      refine GL.skip ⟨_, rfl, .inl ⟨_, rfl, hc75⟩⟩ rfl ?_
                      refine GL.val trivial rfl (OV.pickF (b := (decide (((List.length p_substr : Int) : Int) > x72)) && (decide (((w .i64 (x20.2 + 1)) : Int) ≥ (w .i64 (4 + (sShr .i64 (w .i64 (x25 + 1)) 4)))))) (v := .bool false) rfl hc75 rfl) ?_
                      exact GL.jump0 (fun _ _ h => h) () rfl ⟨(by rw [hc75]; rfl), rfl, rfl, rfl, rfl, rfl, rfl, rfl, rfl, trivial⟩
                  refine GL.nil ?_
                  refine GC.cond (b := ((decide (((List.length p_substr : Int) : Int) > x72)) && (decide (((w .i64 (x20.2 + 1)) : Int) ≥ (w .i64 (4 + (sShr .i64 (w .i64 (x25 + 1)) 4)))))) && (decide (((w .i64 (x25 + 1)) : Int) < (w .i64 ((w .i64 ((List.length p_s : Int) - (List.length p_substr : Int))) + 1))))) rfl (fun hc76 => ?_) (fun hc76 => ?_)
                  · replace h := And.left h hc76
                    refine GC.seq ?_
                    refine GC.region ?_
                    refine GL.val trivial rfl (OV.move (v := sv p_s) rfl) ?_
                    refine GL.val trivial rfl (OV.move (v := .int .i64 (w .i64 (x25 + 1))) rfl) ?_
                    obtain ⟨h78, h79, h80, t77, h81, h⟩ := h
                    refine GL.val trivial rfl (OV.sliceStr (s := p_s) h78 h79 h80 h81 rfl rfl rfl rfl rfl rfl) ?_
                    refine GL.val trivial rfl (OV.move (v := sv p_substr) rfl) ?_
                    refine GL.call h trivial rfl ok_internal_bytealg_IndexRabinKarp_string (vs := [sv t77, sv p_substr]) rfl ?_
                    rintro _ H84 ⟨r83, rfl, h⟩
                    refine GL.val trivial rfl (OV.assign (v := .int .i64 r83) rfl) ?_
                    refine GL.nil ?_
                    refine GC.seq ?_
                    refine GC.seq ?_
                    refine GC.region ?_
                    refine GL.val trivial rfl (OV.move (v := .int .i64 r83) rfl) ?_
                    refine GL.val trivial rfl (OV.ibin (v := .bool (decide ((r83 : Int) < 0))) rfl rfl rfl) ?_
                    refine GL.nil ?_
                    refine GC.cond (b := decide ((r83 : Int) < 0)) rfl (fun hc85 => ?_) (fun hc85 => ?_)
                    · replace h := And.left h hc85
                      refine GC.seq ?_
                      refine GC.region ?_
                      refine GL.val trivial rfl (OV.assign (v := .int .i64 (-1)) rfl) ?_
                      refine GL.nil ?_
                      exact GC.ret (fun _ _ hf hs => post_tmp1 rfl rfl hf hs ⟨(-1), rfl, h⟩)
                    · replace h := And.right h hc85
                      refine GC.skip ?_
                      refine GC.seq ?_
                      refine GC.region ?_
                      refine GL.val trivial rfl (OV.move (v := .int .i64 (w .i64 (x25 + 1))) rfl) ?_
                      refine GL.val trivial rfl (OV.move (v := .int .i64 r83) rfl) ?_
                      refine GL.val trivial rfl (OV.ibin (v := .int .i64 (w .i64 ((w .i64 (x25 + 1)) + r83))) rfl rfl rfl) ?_
                      refine GL.val trivial rfl (OV.assign (v := .int .i64 (w .i64 ((w .i64 (x25 + 1)) + r83))) rfl) ?_
                      refine GL.nil ?_
                      exact GC.ret (fun _ _ hf hs => post_tmp1 rfl rfl hf hs ⟨(w .i64 ((w .i64 (x25 + 1)) + r83)), rfl, h⟩)
                  · replace h := And.right h hc76
                    exact GC.jump (fun _ _ h => h) ((w .i64 (x25 + 1)), (w .i64 (x20.2 + 1))) h ⟨rfl, rfl, rfl, rfl, rfl, rfl, rfl, rfl, trivial⟩
          · replace h := And.right h hc23
            refine GC.exit_to (fun _ _ h => h) ?_
            refine GC.seq ?_
            refine GC.region ?_
            refine GL.val trivial rfl (OV.assign (v := .int .i64 (-1)) rfl) ?_
            refine GL.nil ?_
            exact GC.ret (fun _ _ hf hs => post_tmp1 rfl rfl hf hs ⟨(-1), rfl, h⟩)

def sh_internal_stringslite_HasPrefix (C : Ctx) (p_s : Str) (p_prefix : Str) (K : Bool → Heap → Prop) (H : Heap) : Prop :=
  jn (α := Bool) (fun b1 H11 =>
 K b1 H11)
 (fun J2 => ift (decide (((List.length p_s : Int) : Int) ≥ (List.length p_prefix : Int)))
 (slS p_s 0 (List.length p_prefix : Int) fun t5 =>
 J2 (t5 == p_prefix) H)
 (J2 false H))

theorem ad_internal_stringslite_HasPrefix (C : Ctx) (p_s : Str) (p_prefix : Str) (K : Bool → Heap → Prop) (H : Heap) (h : sh_internal_stringslite_HasPrefix C p_s p_prefix K H) : c_internal_stringslite_HasPrefix C p_s p_prefix K H := by
  refine Spec.enter Tryd.func110 rfl Tryd.ntmps110 rfl ?_
  refine GC.sub [(0, sv p_s), (1, sv p_prefix)] ⟨rfl, rfl, trivial⟩ ?_
  refine GC.seq ?_
  refine GC.region ?_
  refine GL.val trivial rfl (OV.assign (v := .bool false) rfl) ?_
  refine GL.nil ?_
  refine GC.seq ?_
  refine GC.region ?_
  refine GL.val trivial rfl (OV.move (v := sv p_s) rfl) ?_
  refine GL.val trivial rfl (OV.lenStr (s := p_s) rfl rfl) ?_
  refine GL.val trivial rfl (OV.move (v := sv p_prefix) rfl) ?_
  refine GL.val trivial rfl (OV.lenStr (s := p_prefix) rfl rfl) ?_
  refine GL.val trivial rfl (OV.ibin (v := .bool (decide (((List.length p_s : Int) : Int) ≥ (List.length p_prefix : Int)))) rfl rfl rfl) ?_
  refine GL.val trivial rfl (OV.move (v := .bool (decide (((List.length p_s : Int) : Int) ≥ (List.length p_prefix : Int)))) rfl) ?_
  obtain ⟨J2, h, hR3⟩ := h
  refine GL.cut (α := Bool) 7 J2 (fun b1 => [(17, .bool b1)]) ?_ ?_
  · rcases Bool.eq_false_or_eq_true (decide (((List.length p_s : Int) : Int) ≥ (List.length p_prefix : Int))) with hc4 | hc4
    · skip
      replace h := And.left h hc4
      refine GL.val ⟨_, _, rfl, rfl, hc4⟩ rfl (OV.move (v := sv p_s) rfl) ?_
      refine GL.val ⟨_, _, rfl, rfl, hc4⟩ rfl (OV.move (v := sv p_prefix) rfl) ?_
      refine GL.val ⟨_, _, rfl, rfl, hc4⟩ rfl (OV.lenStr (s := p_prefix) rfl rfl) ?_
      obtain ⟨h6, h7, h8, t5, h9, h⟩ := h
      refine GL.val ⟨_, _, rfl, rfl, hc4⟩ rfl (OV.sliceStr (s := p_s) h6 h7 h8 h9 rfl rfl rfl rfl rfl rfl) ?_
      refine GL.val ⟨_, _, rfl, rfl, hc4⟩ rfl (OV.move (v := sv p_prefix) rfl) ?_
      refine GL.val ⟨_, _, rfl, rfl, hc4⟩ rfl (OV.sbin (a := t5) (b := p_prefix) (v := .bool (t5 == p_prefix)) rfl rfl rfl) ?_
      refine GL.val trivial rfl (OV.pickT (b := decide (((List.length p_s : Int) : Int) ≥ (List.length p_prefix : Int))) (v := .bool (t5 == p_prefix)) rfl hc4 rfl) ?_
      exact GL.jump (fun _ _ h => h) (t5 == p_prefix) h ⟨rfl, trivial⟩
    · skip
      replace h := And.right h hc4
      refine GL.skip ⟨_, rfl, .inl ⟨_, rfl, hc4⟩⟩ rfl ?_
      refine GL.skip ⟨_, rfl, .inl ⟨_, rfl, hc4⟩⟩ rfl ?_
      refine GL.skip ⟨_, rfl, .inl ⟨_, rfl, hc4⟩⟩ rfl ?_
      refine GL.skip ⟨_, rfl, .inl ⟨_, rfl, hc4⟩⟩ rfl ?_
      refine GL.skip ⟨_, rfl, .inl ⟨_, rfl, hc4⟩⟩ rfl ?_
      refine GL.skip ⟨_, rfl, .inl ⟨_, rfl, hc4⟩⟩ rfl ?_
      refine GL.val trivial rfl (OV.pickF (b := decide (((List.length p_s : Int) : Int) ≥ (List.length p_prefix : Int))) (v := .bool false) rfl hc4 rfl) ?_
      exact GL.jump (fun _ _ h => h) false h ⟨rfl, trivial⟩
  intro b1 H11 h
  replace h := hR3 b1 H11 h
  refine GL.val trivial rfl (OV.assign (v := .bool b1) rfl) ?_
  refine GL.nil ?_
  exact GC.ret (fun _ _ hf hs => post_tmp1 rfl rfl hf hs ⟨b1, rfl, h⟩)

def sh_strings_asciiSet_contains (C : Ctx) (p_as : Option (Nat × Nat)) (p_c : Int) (K : Bool → Heap → Prop) (H : Heap) : Prop :=
  nck p_as fun p1 =>
 ixr p1 256 p_c <|
 ldB H (p1.1, p1.2 + (p_c : Int).toNat * 1) fun x5 =>
 K x5 H

theorem ad_strings_asciiSet_contains (C : Ctx) (p_as : Option (Nat × Nat)) (p_c : Int) (K : Bool → Heap → Prop) (H : Heap) (h : sh_strings_asciiSet_contains C p_as p_c K H) : c_strings_asciiSet_contains C p_as p_c K H := by
  refine Spec.enter Tryd.func111 rfl Tryd.ntmps111 rfl ?_
  refine GC.sub [(0, pv p_as), (1, .int .u8 p_c)] ⟨rfl, rfl, trivial⟩ ?_
  refine GC.seq ?_
  refine GC.region ?_
  refine GL.val trivial rfl (OV.assign (v := .bool false) rfl) ?_
  refine GL.nil ?_
  refine GC.seq ?_
  refine GC.region ?_
  refine GL.val trivial rfl (OV.move (v := pv p_as) rfl) ?_
  refine GL.val trivial rfl (OV.move (v := .int .u8 p_c) rfl) ?_
  obtain ⟨p1, hp2, h⟩ := h
  refine GL.val trivial rfl (OV.nilCheck (q := p_as) rfl hp2) ?_
  obtain ⟨ha3, hb4, h⟩ := h
  refine GL.val trivial rfl (OV.indexAddrA (p := p1) rfl rfl rfl rfl ha3 hb4) ?_
  obtain ⟨x5, hr6, h⟩ := h
  refine GL.val trivial rfl (OV.load (p := (p1.1, p1.2 + (p_c : Int).toNat * 1)) rfl rfl hr6) ?_
  refine GL.val trivial rfl (OV.assign (v := .bool x5) rfl) ?_
  refine GL.nil ?_
  exact GC.ret (fun _ _ hf hs => post_tmp1 rfl rfl hf hs ⟨x5, rfl, h⟩)

def sh_internal_stringslite_IndexByte (C : Ctx) (p_s : Str) (p_c : Int) (K : Int → Heap → Prop) (H : Heap) : Prop :=
  K (idxB p_s p_c) H

theorem ad_internal_stringslite_IndexByte (C : Ctx) (p_s : Str) (p_c : Int) (K : Int → Heap → Prop) (H : Heap) (h : sh_internal_stringslite_IndexByte C p_s p_c K H) : c_internal_stringslite_IndexByte C p_s p_c K H := by
  refine Spec.enter Tryd.func115 rfl Tryd.ntmps115 rfl ?_
  refine GC.sub [(0, sv p_s), (1, .int .u8 p_c)] ⟨rfl, rfl, trivial⟩ ?_
  refine GC.seq ?_
  refine GC.region ?_
  refine GL.val trivial rfl (OV.assign (v := .int .i64 0) rfl) ?_
  refine GL.nil ?_
  refine GC.seq ?_
  refine GC.region ?_
  refine GL.val trivial rfl (OV.move (v := sv p_s) rfl) ?_
  refine GL.val trivial rfl (OV.move (v := .int .u8 p_c) rfl) ?_
  refine GL.val trivial rfl (OV.ext ext_internal_bytealg_IndexByteString (vs := [sv p_s, .int .u8 p_c]) (v := .int .i64 (idxB p_s p_c)) rfl (fun w => run_idxB _ _ w)) ?_
  refine GL.val trivial rfl (OV.assign (v := .int .i64 (idxB p_s p_c)) rfl) ?_
  refine GL.nil ?_
  exact GC.ret (fun _ _ hf hs => post_tmp1 rfl rfl hf hs ⟨(idxB p_s p_c), rfl, h⟩)
end Sx
set_option linter.unusedVariables false
set_option linter.unusedSimpArgs false
namespace Sx
open Go
inductive V where
  | mk (k n : Int) (s : Str) (l : List V)

namespace V
def k : V → Int | .mk k _ _ _ => k
def n : V → Int | .mk _ n _ _ => n
def s : V → Str | .mk _ _ s _ => s
def l : V → List V | .mk _ _ _ l => l
end V
mutual
def vsize : V → Nat
  | .mk _ _ _ l => vsizes l + 1
def vsizes : List V → Nat
  | [] => 0
  | v :: l => vsize v + vsizes l
end
theorem vsize_mem : ∀ {l : List V} {v : V}, v ∈ l → vsize v ≤ vsizes l
  | w :: l, v, h => by
    simp only [vsizes]
    rcases List.mem_cons.1 h with rfl | h
    · omega
    · have := vsize_mem h; omega
theorem vsize_l {v w : V} (h : w ∈ v.l) : vsize w < vsize v := by
  obtain ⟨k, n, s, l⟩ := v
  have := vsize_mem (show w ∈ l from h)
  simp only [vsize]; omega
/-- by how great a value is -/
theorem V.rec_ {P : V → Prop} (h : ∀ v, (∀ w ∈ v.l, P w) → P v) (v : V) : P v := by
  have : ∀ n v, vsize v ≤ n → P v := by
    intro n
    induction n with
    | zero => intro v hv; obtain ⟨k, n, s, l⟩ := v; simp [vsize] at hv
    | succ n ih => intro v hv; exact h v fun w hw => ih w (by have := vsize_l hw; omega)
  exact this _ v (Nat.le_refl _)

mutual
def dep : V → Nat
  | .mk _ _ _ l => deps l + 1
def deps : List V → Nat
  | [] => 0
  | v :: l => max (dep v) (deps l)
end
theorem dep_eq (v : V) : dep v = deps v.l + 1 := by obtain ⟨k, n, s, l⟩ := v; rfl
theorem deps_append : ∀ (a b : List V), deps (a ++ b) = max (deps a) (deps b)
  | [], b => by simp [deps]
  | v :: a, b => by simp only [List.cons_append, deps, deps_append a b]; omega
theorem deps_take {l : List V} {i : Nat} (h : i < l.length) : deps (l.take (i + 1)) = max (deps (l.take i)) (dep l[i]) := by
  rw [List.take_add_one, List.getElem?_eq_getElem h, Option.toList_some, deps_append]; simp [deps]
theorem deps_le : ∀ {l : List V} {v : V}, v ∈ l → dep v ≤ deps l
  | w :: l, v, h => by
    simp only [deps]
    rcases List.mem_cons.1 h with rfl | h
    · omega
    · have := deps_le h; omega
def lowC (c : UInt8) : Bool := decide (97 ≤ c.toNat) && decide (c.toNat ≤ 122)
def nameC (c : UInt8) : Bool := lowC c || (decide (65 ≤ c.toNat) && decide (c.toNat ≤ 90)) || (decide (48 ≤ c.toNat) && decide (c.toNat ≤ 57)) || decide (c.toNat = 95)
def nameS (s : Str) : Bool := !s.isEmpty && decide (s.length ≤ 32) && lowC (s.headD 0) && s.all nameC
def digC (c : UInt8) : Bool := decide (48 ≤ c.toNat) && decide (c.toNat ≤ 57)
def cutD : Str → Option (Str × Str)
  | [] => none
  | c :: t => if c = 46 then some ([], t) else (cutD t).map fun p => (c :: p.1, p.2)
theorem cutD_at : ∀ (a b : Str), (46 : UInt8) ∉ a → cutD (a ++ 46 :: b) = some (a, b)
  | [], b, _ => by simp [cutD]
  | c :: a, b, h => by
    have h1 : c ≠ 46 := fun e => h (by rw [e]; exact List.mem_cons_self ..)
    simp only [List.cons_append, cutD, if_neg h1, cutD_at a b fun hh => h (List.mem_cons_of_mem _ hh)]; rfl
theorem cutD_no : ∀ (a : Str), (46 : UInt8) ∉ a → cutD a = none
  | [], _ => rfl
  | c :: a, h => by
    have h1 : c ≠ 46 := fun e => h (by rw [e]; exact List.mem_cons_self ..)
    simp only [cutD, if_neg h1, cutD_no a fun hh => h (List.mem_cons_of_mem _ hh)]; rfl
theorem cutD_mem : ∀ (s : Str), (46 : UInt8) ∈ s → ∃ a b, s = a ++ 46 :: b ∧ 46 ∉ a
  | c :: s, h => by
    by_cases hc : c = 46
    · exact ⟨[], s, by rw [hc]; rfl, by simp⟩
    · obtain ⟨a, b, h1, h2⟩ := cutD_mem s (by simpa [Ne.symm hc] using h)
      exact ⟨c :: a, b, by rw [h1]; rfl, by simp [h2, Ne.symm hc]⟩
def trueS : Str := [116, 114, 117, 101]
def falseS : Str := [102, 97, 108, 115, 101]
def namesS (s : Str) : Bool := if s = trueS ∨ s = falseS then false else match cutD s with
  | some (a, b) => nameS a && nameS b
  | none => nameS s
def unmin (s : Str) : Str := if s.head? = some 45 then s.tail else s
def numS (s : Str) : Bool := !(unmin s).isEmpty && (unmin s).all digC && !(decide ((unmin s).head? = some 48) && decide (s ≠ [48]))
def digits (s : Str) : Nat := (unmin s).length

def okN (k n : Int) (s : Str) (m : Nat) : Bool :=
  if k = 1 then (n == 0 || n == 1) && s.isEmpty && decide (m = 0)
  else if k = 2 then s.isEmpty && decide (m = 0)
  else if k = 3 then numS s && n == 0 && decide (m = 0)
  else if k = 4 then n == 0 && decide (m = 0)
  else if k = 5 then n == 0 && s.isEmpty && decide (m ≠ 1)
  else if k = 6 then n == 0 && namesS s
  else false
def fitN (k : Int) (s : Str) (m : Nat) : Bool :=
  if k = 3 then decide (digits s ≤ 200)
  else if k = 4 then decide (s.length ≤ 4096)
  else if k = 5 then decide (m ≤ 16)
  else if k = 6 then decide (m ≤ 8)
  else true
mutual
def formV : V → Bool
  | .mk k n s l => okN k n s l.length && formVs l
def formVs : List V → Bool
  | [] => true
  | v :: l => formV v && formVs l
end
mutual
def fitsV : V → Bool
  | .mk k n s l => fitN k s l.length && fitsVs l
def fitsVs : List V → Bool
  | [] => true
  | v :: l => fitsV v && fitsVs l
end
theorem formV_eq (v : V) : formV v = (okN v.k v.n v.s v.l.length && formVs v.l) := by obtain ⟨k, n, s, l⟩ := v; rfl
theorem fitsV_eq (v : V) : fitsV v = (fitN v.k v.s v.l.length && fitsVs v.l) := by obtain ⟨k, n, s, l⟩ := v; rfl
theorem formVs_append : ∀ (a b : List V), formVs (a ++ b) = (formVs a && formVs b)
  | [], b => by simp [formVs]
  | v :: a, b => by simp only [List.cons_append, formVs, formVs_append a b, Bool.and_assoc]
theorem fitsVs_append : ∀ (a b : List V), fitsVs (a ++ b) = (fitsVs a && fitsVs b)
  | [], b => by simp [fitsVs]
  | v :: a, b => by simp only [List.cons_append, fitsVs, fitsVs_append a b, Bool.and_assoc]
theorem formVs_take {l : List V} {i : Nat} (h : i < l.length) : formVs (l.take (i + 1)) = (formVs (l.take i) && formV l[i]) := by
  rw [List.take_add_one, List.getElem?_eq_getElem h, Option.toList_some, formVs_append]; simp [formVs]
theorem fitsVs_take {l : List V} {i : Nat} (h : i < l.length) : fitsVs (l.take (i + 1)) = (fitsVs (l.take i) && fitsV l[i]) := by
  rw [List.take_add_one, List.getElem?_eq_getElem h, Option.toList_some, fitsVs_append]; simp [fitsVs]
def checkV (v : V) : Int := if dep v > 64 then 65 else if formV v = false then 4 else if fitsV v = false then 40 else 0
def mayV (v : V) : Bool := decide (checkV v = 0)
mutual
def sameV : V → V → Bool
  | .mk k n s l, .mk k' n' s' l' => k == k' && n == n' && decide (s = s') && sameVs l l'
def sameVs : List V → List V → Bool
  | [], [] => true
  | v :: l, w :: m => sameV v w && sameVs l m
  | _, _ => false
end
mutual
theorem sameV_refl : ∀ v : V, sameV v v = true
  | .mk k n s l => by simp [sameV, sameVs_refl l]
theorem sameVs_refl : ∀ l : List V, sameVs l l = true
  | [] => rfl
  | v :: l => by simp [sameVs, sameV_refl v, sameVs_refl l]
end
end Sx
set_option linter.unusedVariables false
set_option linter.unusedSimpArgs false
set_option maxRecDepth 10000
namespace Sx
open Go Go.Proofs
theorem flat_get {α β : Type} (f : α → List β) (z : Nat) (hz : ∀ x, (f x).length = z) : ∀ (l : List α) (i : Nat) (x : α), l[i]? = some x → ∀ (j : Nat) (v : β), (f x)[j]? = some v → (l.flatMap f)[i * z + j]? = some v
  | [], i, x, h, j, v, hv => by simp at h
  | y :: l, 0, x, h, j, v, hv => by
    simp at h; subst h
    rw [List.flatMap_cons, Nat.zero_mul, Nat.zero_add, List.getElem?_append_left (List.getElem?_eq_some_iff.1 hv).1]; exact hv
  | y :: l, i + 1, x, h, j, v, hv => by
    have := flat_get f z hz l i x (by simpa using h) j v hv
    rw [List.flatMap_cons, List.getElem?_append_right (by rw [hz, Nat.add_mul]; omega), hz]
    rw [show (i + 1) * z + j - z = i * z + j by rw [Nat.add_mul]; omega]; exact this

abbrev TV := T_api_Value
theorem TV.c_len (x : TV) : (T_api_Value.c x).length = 4 := rfl

mutual
def VIs (H : Heap) : V → TV → Prop
  | .mk k n s l, x => x.Kind = k ∧ x.N = n ∧ x.S = s ∧ ∃ xs : List TV, rdsl H x.L (xs.flatMap T_api_Value.c) ∧ x.L.len = xs.length ∧ VsAre H l xs
def VsAre (H : Heap) : List V → List TV → Prop
  | [], [] => True
  | v :: l, x :: xs => VIs H v x ∧ VsAre H l xs
  | [], _ :: _ => False
  | _ :: _, [] => False
end
/-- a row of values -/
def VRow (H : Heap) (t : Sl) (l : List V) : Prop := ∃ xs : List TV, rdsl H t (xs.flatMap T_api_Value.c) ∧ t.len = xs.length ∧ VsAre H l xs
theorem VIs_iff {H : Heap} {v : V} {x : TV} : VIs H v x ↔ x.Kind = v.k ∧ x.N = v.n ∧ x.S = v.s ∧ VRow H x.L v.l := by obtain ⟨k, n, s, l⟩ := v; rfl
theorem VsAre.len {H : Heap} : ∀ {l : List V} {xs : List TV}, VsAre H l xs → l.length = xs.length
  | [], [], _ => rfl
  | v :: l, x :: xs, h => by have := VsAre.len h.2; simp [this]
theorem VsAre.get {H : Heap} : ∀ {l : List V} {xs : List TV}, VsAre H l xs → ∀ (i : Nat) (v : V) (x : TV), l[i]? = some v → xs[i]? = some x → VIs H v x
  | [], [], _, i, v, x, h, _ => by simp at h
  | v :: l, x :: xs, h, 0, v', x', h1, h2 => by simp at h1 h2; subst h1; subst h2; exact h.1
  | v :: l, x :: xs, h, i + 1, v', x', h1, h2 => VsAre.get h.2 i v' x' (by simpa using h1) (by simpa using h2)
theorem VsAre.of {H : Heap} : ∀ {l : List V} {xs : List TV}, l.length = xs.length → (∀ (i : Nat) (v : V) (x : TV), l[i]? = some v → xs[i]? = some x → VIs H v x) → VsAre H l xs
  | [], [], _, _ => trivial
  | v :: l, x :: xs, h, hg => ⟨hg 0 v x rfl rfl, VsAre.of (by simpa using h) fun i v' x' h1 h2 => hg (i + 1) v' x' (by simpa using h1) (by simpa using h2)⟩
mutual
theorem VIs.le {A B : Heap} (h : A.le B) : ∀ {v : V} {x : TV}, VIs A v x → VIs B v x
  | .mk k n s l, x, ⟨h1, h2, h3, xs, h4, h5, h6⟩ => ⟨h1, h2, h3, xs, rdsl_le h h4, h5, VsAre.le h h6⟩
theorem VsAre.le {A B : Heap} (h : A.le B) : ∀ {l : List V} {xs : List TV}, VsAre A l xs → VsAre B l xs
  | [], [], _ => trivial
  | v :: l, x :: xs, ⟨h1, h2⟩ => ⟨VIs.le h h1, VsAre.le h h2⟩
end
theorem VRow.le {A B : Heap} {t : Sl} {l : List V} (h : VRow A t l) (hle : A.le B) : VRow B t l := by
  obtain ⟨xs, h1, h2, h3⟩ := h
  exact ⟨xs, rdsl_le hle h1, h2, h3.le hle⟩
theorem VRow.len {H : Heap} {t : Sl} {l : List V} (h : VRow H t l) : t.len = l.length := by
  obtain ⟨xs, h1, h2, h3⟩ := h
  rw [h2, h3.len]
theorem VIs.kind {H : Heap} {v : V} {x : TV} (h : VIs H v x) : x.Kind = v.k := (VIs_iff.1 h).1
theorem VIs.num {H : Heap} {v : V} {x : TV} (h : VIs H v x) : x.N = v.n := (VIs_iff.1 h).2.1
theorem VIs.txt {H : Heap} {v : V} {x : TV} (h : VIs H v x) : x.S = v.s := (VIs_iff.1 h).2.2.1
theorem VIs.row {H : Heap} {v : V} {x : TV} (h : VIs H v x) : VRow H x.L v.l := (VIs_iff.1 h).2.2.2

/-- one of a row's values -/
theorem VRow.ld {A H : Heap} {t : Sl} {l : List V} (h : VRow A t l) (hle : A.le H) {i : Nat} {x : Int} {K : TV → Prop} (hx : x = i) (hi : i < l.length) (k : ∀ y, VIs A l[i] y → K y) : ixa t x fun p => ldT H T_api_Value.c (p.1, p.2 + x.toNat * 4) K := by
  have hl := h.len
  obtain ⟨xs, h1, h2, h3⟩ := h
  have hi2 : i < xs.length := by omega
  have hg := List.getElem?_eq_getElem hi2
  subst hx
  refine ixa_of (rdsl_le hle h1) (by omega) (by omega) (fun e => ?_) fun p _ hp => ⟨xs[i], ?_, k _ (h3.get i _ _ (List.getElem?_eq_getElem hi) hg)⟩
  · have := flat_get T_api_Value.c 4 TV.c_len xs i _ hg 0 _ rfl
    rw [e] at this; simp at this
  · refine rds_of fun j v hj => ?_
    have := rds_get hp _ _ (flat_get T_api_Value.c 4 TV.c_len xs i _ hg j v hj)
    rw [show p.2 + (i : Int).toNat * 4 + j = p.2 + (i * 4 + j) by omega]; exact this

mutual
def VB : V → Prop
  | .mk k n s l => (0 ≤ k ∧ k ≤ 255) ∧ (-9223372036854775808 ≤ n ∧ n ≤ 9223372036854775807) ∧ s.length ≤ 140737488355328 ∧ l.length ≤ 140737488355328 ∧ VBs l
def VBs : List V → Prop
  | [] => True
  | v :: l => VB v ∧ VBs l
end
theorem VBs.mem : ∀ {l : List V}, VBs l → ∀ {v}, v ∈ l → VB v
  | w :: l, h, v, hv => by
    rcases List.mem_cons.1 hv with rfl | hv
    · exact h.1
    · exact VBs.mem h.2 hv
theorem VBs.of : ∀ {l : List V}, (∀ v ∈ l, VB v) → VBs l
  | [], _ => trivial
  | v :: l, h => ⟨h v (List.mem_cons_self ..), VBs.of fun w hw => h w (List.mem_cons_of_mem _ hw)⟩
theorem VB.k {v : V} (h : VB v) : 0 ≤ v.k ∧ v.k ≤ 255 := by obtain ⟨k, n, s, l⟩ := v; exact h.1
theorem VB.n {v : V} (h : VB v) : -9223372036854775808 ≤ v.n ∧ v.n ≤ 9223372036854775807 := by obtain ⟨k, n, s, l⟩ := v; exact h.2.1
theorem VB.s {v : V} (h : VB v) : v.s.length ≤ 140737488355328 := by obtain ⟨k, n, s, l⟩ := v; exact h.2.2.1
theorem VB.l {v : V} (h : VB v) : v.l.length ≤ 140737488355328 := by obtain ⟨k, n, s, l⟩ := v; exact h.2.2.2.1
theorem VB.ls {v : V} (h : VB v) : VBs v.l := by obtain ⟨k, n, s, l⟩ := v; exact h.2.2.2.2
theorem VB.at {v : V} (h : VB v) {i : Nat} (hi : i < v.l.length) : VB v.l[i] := h.ls.mem (List.getElem_mem hi)

section
variable {B : Heap} {b : Nat} {m : Bool} {x : TV}
theorem rd_box (h : B b = some (m, .row (T_api_Value.c x))) : rd B (b, 0) = some (.int .u8 x.Kind) ∧ rd B (b, 1) = some (.int .i64 x.N) ∧ rd B (b, 2) = some (sv x.S) ∧ rd B (b, 3) = some (slv x.L) :=
  ⟨by rw [rd_row h]; rfl, by rw [rd_row h]; rfl, by rw [rd_row h]; rfl, by rw [rd_row h]; rfl⟩
theorem bxK {K : Int → Prop} (h : B b = some (m, .row (T_api_Value.c x))) (k : K x.Kind) : ldI B .u8 ((b, 0).1, (b, 0).2 + 0) K := ⟨_, (rd_box h).1, k⟩
theorem bxN {K : Int → Prop} (h : B b = some (m, .row (T_api_Value.c x))) (k : K x.N) : ldI B .i64 ((b, 0).1, (b, 0).2 + 1) K := ⟨_, (rd_box h).2.1, k⟩
theorem bxS {K : Str → Prop} (h : B b = some (m, .row (T_api_Value.c x))) (k : K x.S) : ldS B ((b, 0).1, (b, 0).2 + 2) K := ⟨_, (rd_box h).2.2.1, k⟩
theorem bxL {K : Sl → Prop} (h : B b = some (m, .row (T_api_Value.c x))) (k : K x.L) : ldL B ((b, 0).1, (b, 0).2 + 3) K := ⟨_, (rd_box h).2.2.2, k⟩
theorem bxV {K : TV → Prop} (h : B b = some (m, .row (T_api_Value.c x))) (k : K x) : ldT B T_api_Value.c (b, 0) K := ⟨x, rds_row h fun j v hj => by simpa using hj, k⟩
end
section
variable {C : Ctx} {H : Heap}
theorem value_depth_ok {v : V} {x : TV} {H : Heap} {m : Nat} {K : Int → Heap → Prop} (hv : VIs H v x) (hB : VB v) (hm : m ≤ 1000) (k : ∀ r : Nat, r ≤ m + 1 → r ≤ dep v → (r = dep v ∨ m + 1 ≤ r) → K r H) : c_value_depth C x m K H := by
  refine V.rec_ (P := fun v => ∀ {x H} {m : Nat} {K : Int → Heap → Prop}, VIs H v x → VB v → m ≤ 1000 → (∀ r : Nat, r ≤ m + 1 → r ≤ dep v → (r = dep v ∨ m + 1 ≤ r) → K r H) → c_value_depth C x m K H) (fun v ih => ?_) v hv hB hm k
  clear hv hB hm k m
  intro x H m K hv hB hm k
  apply c_value_depth.gh
  apply ad_value_depth
  unfold sh_value_depth
  intro b1 n1
  have hr := hv.row
  have hl := hr.len
  have hbl := hB.l
  have hde := dep_eq v
  have hb1 : (H.put b1 (.row (T_api_Value.c x))) b1 = some (true, .row (T_api_Value.c x)) := Heap.put_same ..
  refine ⟨fun y H' => H.le H' ∧ ∃ r : Nat, y = (r : Int) ∧ r ≤ m ∧ r ≤ deps v.l ∧ (r = deps v.l ∨ m ≤ r), ?_, ?_⟩
  rotate_left
  · rintro y H' ⟨hle, r, rfl, h0, h1, h2⟩
    rw [w_i64 (by omega) (by omega)]
    have := k (r + 1) (by omega) (by omega) (by omega)
    exact ⟨H, Gh.le hle, by simpa using this⟩
  refine bxL hb1 ?_
  refine ⟨fun y H' => ∃ i r : Nat, y = ((r : Int), (i : Int)) ∧ i ≤ v.l.length ∧ H.le H' ∧ r ≤ m ∧ r ≤ deps (v.l.take i) ∧ (r = deps (v.l.take i) ∨ m ≤ r), fun y _ => v.l.length - y.2.toNat, ⟨0, 0, rfl, Nat.zero_le _, Heap.le_put n1, Nat.zero_le _, Nat.zero_le _, .inl (by simp [deps])⟩, ?_⟩
  rintro _ H' ⟨i, r, rfl, hi, hle, hr0, hr1, hr2⟩
  have hdti : deps (v.l.take i) ≤ deps v.l := by
    have h1 := deps_append (v.l.take i) (v.l.drop i)
    rw [List.take_append_drop] at h1; omega
  dsimp only
  rw [hl]
  refine ift.of (fun h => ?_) (fun h => ?_)
  · have hlt : i < v.l.length := by have := of_decide_eq_true h; omega
    have hmem := List.getElem_mem hlt
    have hdl := deps_le hmem
    refine hr.ld hle rfl hlt fun y hy => ?_
    intro b20 n20
    refine ⟨_, Heap.put_same .., by simp [T_api_Value.c], ?_⟩
    rw [Heap.put_put]
    have esp : splice (T_api_Value.c T_api_Value.zero) (b20, 0).2 (T_api_Value.c y) = T_api_Value.c y := rfl
    rw [esp]
    have hle2 := hle.trans (Heap.le_put n20 (g := .row (T_api_Value.c y)) (m := true))
    refine ift.of (fun h => ?_) (fun h => ?_)
    · have hge : m ≤ r := by have := of_decide_eq_true h; omega
      exact ⟨hle2, r, rfl, by omega, by omega, .inr hge⟩
    · have hltm : r < m := by have := of_decide_eq_false h; omega
      refine bxV (Heap.put_same ..) ?_
      have em : w .i64 ((m : Int) - 1) = ((m - 1 : Nat) : Int) := by rw [w_i64 (by omega) (by omega)]; omega
      rw [em]
      refine ih _ hmem (hy.le hle2) (hB.at hlt) (by omega) fun q hq0 hq1 hq2 => ?_
      have hdt := deps_take hlt
      rw [w_i64 (by omega) (by omega)]
      refine ⟨⟨i + 1, max q r, ?_, by omega, hle2, by omega, by omega, ?_⟩, by first | omega | (dsimp only; omega)⟩
      · refine Prod.ext ?_ rfl
        dsimp only
        split <;> omega
      · rw [hdt]; omega
  · have hie : i = v.l.length := by have := of_decide_eq_false h; omega
    subst hie
    rw [List.take_length] at hr1 hr2
    exact ⟨hle, r, rfl, hr0, hr1, hr2⟩
end
end Sx

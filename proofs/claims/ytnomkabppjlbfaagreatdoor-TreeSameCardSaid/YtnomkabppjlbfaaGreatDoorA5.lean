/-
  Texts of this family, one behind the other: Sh1.
-/
import Derived.Test.YtnomkabppjlbfaaGreatDoorA4
import Derived.Test.YtnomkabppjlbfaaGreatDoorProg
noncomputable section
set_option linter.unusedVariables false
set_option maxRecDepth 100000
namespace Sx
open Go Go.Proofs
structure T_api_Module where
  Name : Str
  Imports : Sl
  Types : Sl
  Rels : Sl
  Rules : Sl
  Nevers : Sl
def T_api_Module.c (x : T_api_Module) : List Value := [sv x.Name, slv x.Imports, slv x.Types, slv x.Rels, slv x.Rules, slv x.Nevers]
def T_api_Module.zero : T_api_Module := ⟨[], Sl.nil, Sl.nil, Sl.nil, Sl.nil, Sl.nil⟩
structure T_api_Pos where
  Line : Int
  Col : Int
def T_api_Pos.c (x : T_api_Pos) : List Value := [.int .i64 x.Line, .int .i64 x.Col]
def T_api_Pos.zero : T_api_Pos := ⟨0, 0⟩
structure T_api_Value where
  Kind : Int
  N : Int
  S : Str
  L : Sl
def T_api_Value.c (x : T_api_Value) : List Value := [.int .u8 x.Kind, .int .i64 x.N, sv x.S, slv x.L]
def T_api_Value.zero : T_api_Value := ⟨0, 0, [], Sl.nil⟩
structure T_api_Expr where
  Kind : Int
  Pos : T_api_Pos
  Name : Str
  Value_ : T_api_Value
  Args : Sl
def T_api_Expr.c (x : T_api_Expr) : List Value := [.int .u8 x.Kind, .int .i64 x.Pos.Line, .int .i64 x.Pos.Col, sv x.Name, .int .u8 x.Value_.Kind, .int .i64 x.Value_.N, sv x.Value_.S, slv x.Value_.L, slv x.Args]
def T_api_Expr.zero : T_api_Expr := ⟨0, T_api_Pos.zero, [], T_api_Value.zero, Sl.nil⟩
structure T_api_Import where
  Pos : T_api_Pos
  Name : Str
def T_api_Import.c (x : T_api_Import) : List Value := [.int .i64 x.Pos.Line, .int .i64 x.Pos.Col, sv x.Name]
def T_api_Import.zero : T_api_Import := ⟨T_api_Pos.zero, []⟩
structure T_api_TypeDef where
  Pos : T_api_Pos
  Pub : Bool
  Name : Str
  Params : Sl
  Cons : Sl
def T_api_TypeDef.c (x : T_api_TypeDef) : List Value := [.int .i64 x.Pos.Line, .int .i64 x.Pos.Col, .bool x.Pub, sv x.Name, slv x.Params, slv x.Cons]
def T_api_TypeDef.zero : T_api_TypeDef := ⟨T_api_Pos.zero, false, [], Sl.nil, Sl.nil⟩
structure T_api_ConsDef where
  Name : Str
  Fields : Sl
def T_api_ConsDef.c (x : T_api_ConsDef) : List Value := [sv x.Name, slv x.Fields]
def T_api_ConsDef.zero : T_api_ConsDef := ⟨[], Sl.nil⟩
structure T_api_Type where
  Name : Str
  Args : Sl
def T_api_Type.c (x : T_api_Type) : List Value := [sv x.Name, slv x.Args]
def T_api_Type.zero : T_api_Type := ⟨[], Sl.nil⟩
structure T_api_FieldDef where
  Name : Str
  Type_ : T_api_Type
def T_api_FieldDef.c (x : T_api_FieldDef) : List Value := [sv x.Name, sv x.Type_.Name, slv x.Type_.Args]
def T_api_FieldDef.zero : T_api_FieldDef := ⟨[], T_api_Type.zero⟩
structure T_api_RelDef where
  Pos : T_api_Pos
  Pub : Bool
  Input : Bool
  Name : Str
  Fields : Sl
def T_api_RelDef.c (x : T_api_RelDef) : List Value := [.int .i64 x.Pos.Line, .int .i64 x.Pos.Col, .bool x.Pub, .bool x.Input, sv x.Name, slv x.Fields]
def T_api_RelDef.zero : T_api_RelDef := ⟨T_api_Pos.zero, false, false, [], Sl.nil⟩
structure T_api_Rule where
  Pos : T_api_Pos
  Rel : Str
  Args : Sl
  Aggs : Sl
  Body : Sl
def T_api_Rule.c (x : T_api_Rule) : List Value := [.int .i64 x.Pos.Line, .int .i64 x.Pos.Col, sv x.Rel, slv x.Args, slv x.Aggs, slv x.Body]
def T_api_Rule.zero : T_api_Rule := ⟨T_api_Pos.zero, [], Sl.nil, Sl.nil, Sl.nil⟩
structure T_api_Literal where
  Kind : Int
  Pos : T_api_Pos
  Rel : Str
  Args : Sl
def T_api_Literal.c (x : T_api_Literal) : List Value := [.int .u8 x.Kind, .int .i64 x.Pos.Line, .int .i64 x.Pos.Col, sv x.Rel, slv x.Args]
def T_api_Literal.zero : T_api_Literal := ⟨0, T_api_Pos.zero, [], Sl.nil⟩
structure T_api_Never where
  Pos : T_api_Pos
  Name : Str
  Body : Sl
def T_api_Never.c (x : T_api_Never) : List Value := [.int .i64 x.Pos.Line, .int .i64 x.Pos.Col, sv x.Name, slv x.Body]
def T_api_Never.zero : T_api_Never := ⟨T_api_Pos.zero, [], Sl.nil⟩

theorem ok_law06_large : CallOk Tryz.prog 8 := ⟨⟨_, Tryz.func8, rfl, by decide +kernel⟩⟩
theorem ok_law06_awake : CallOk Tryz.prog 9 := ⟨⟨_, Tryz.func9, rfl, by decide +kernel⟩⟩
theorem ok_tree_Same : CallOk Tryz.prog 14 := ⟨⟨_, Tryz.func14, rfl, by decide +kernel⟩⟩
theorem ok_ref06_Same : CallOk Tryz.prog 15 := ⟨⟨_, Tryz.func15, rfl, by decide +kernel⟩⟩
theorem ok_law06_exprs : CallOk Tryz.prog 19 := ⟨⟨_, Tryz.func19, rfl, by decide +kernel⟩⟩
theorem ok_ref06_SameExpr : CallOk Tryz.prog 20 := ⟨⟨_, Tryz.func20, rfl, by decide +kernel⟩⟩
theorem ok_law06_fields : CallOk Tryz.prog 21 := ⟨⟨_, Tryz.func21, rfl, by decide +kernel⟩⟩
theorem ok_law06_body : CallOk Tryz.prog 22 := ⟨⟨_, Tryz.func22, rfl, by decide +kernel⟩⟩
theorem ok_slices_EqualFunc_api_Import_api_Import_api_Import_api_Import : CallOk Tryz.prog 68 := ⟨⟨_, Tryz.func68, rfl, by decide +kernel⟩⟩
theorem ok_tree_Same_1 : CallOk Tryz.prog 69 := ⟨⟨_, Tryz.func69, rfl, by decide +kernel⟩⟩
theorem ok_slices_EqualFunc_api_TypeDef_api_TypeDef_api_TypeDef_api_TypeDef : CallOk Tryz.prog 70 := ⟨⟨_, Tryz.func70, rfl, by decide +kernel⟩⟩
theorem ok_tree_Same_2 : CallOk Tryz.prog 71 := ⟨⟨_, Tryz.func71, rfl, by decide +kernel⟩⟩
theorem ok_slices_Equal_string_string : CallOk Tryz.prog 72 := ⟨⟨_, Tryz.func72, rfl, by decide +kernel⟩⟩
theorem ok_slices_EqualFunc_api_ConsDef_api_ConsDef_api_ConsDef_api_ConsDef : CallOk Tryz.prog 73 := ⟨⟨_, Tryz.func73, rfl, by decide +kernel⟩⟩
theorem ok_tree_Same_2_1 : CallOk Tryz.prog 74 := ⟨⟨_, Tryz.func74, rfl, by decide +kernel⟩⟩
theorem ok_slices_EqualFunc_api_FieldDef_api_FieldDef_api_FieldDef_api_FieldDef : CallOk Tryz.prog 75 := ⟨⟨_, Tryz.func75, rfl, by decide +kernel⟩⟩
theorem ok_tree_sameField : CallOk Tryz.prog 76 := ⟨⟨_, Tryz.func76, rfl, by decide +kernel⟩⟩
theorem ok_slices_EqualFunc_api_RelDef_api_RelDef_api_RelDef_api_RelDef : CallOk Tryz.prog 77 := ⟨⟨_, Tryz.func77, rfl, by decide +kernel⟩⟩
theorem ok_tree_Same_3 : CallOk Tryz.prog 78 := ⟨⟨_, Tryz.func78, rfl, by decide +kernel⟩⟩
theorem ok_slices_EqualFunc_api_Rule_api_Rule_api_Rule_api_Rule : CallOk Tryz.prog 79 := ⟨⟨_, Tryz.func79, rfl, by decide +kernel⟩⟩
theorem ok_tree_Same_4 : CallOk Tryz.prog 80 := ⟨⟨_, Tryz.func80, rfl, by decide +kernel⟩⟩
theorem ok_slices_EqualFunc_api_Expr_api_Expr_api_Expr_api_Expr : CallOk Tryz.prog 81 := ⟨⟨_, Tryz.func81, rfl, by decide +kernel⟩⟩
theorem ok_tree_sameExpr : CallOk Tryz.prog 82 := ⟨⟨_, Tryz.func82, rfl, by decide +kernel⟩⟩
theorem ok_slices_EqualFunc_api_Literal_api_Literal_api_Literal_api_Literal : CallOk Tryz.prog 83 := ⟨⟨_, Tryz.func83, rfl, by decide +kernel⟩⟩
theorem ok_tree_sameLiteral : CallOk Tryz.prog 84 := ⟨⟨_, Tryz.func84, rfl, by decide +kernel⟩⟩
theorem ok_slices_EqualFunc_api_Never_api_Never_api_Never_api_Never : CallOk Tryz.prog 85 := ⟨⟨_, Tryz.func85, rfl, by decide +kernel⟩⟩
theorem ok_tree_Same_5 : CallOk Tryz.prog 86 := ⟨⟨_, Tryz.func86, rfl, by decide +kernel⟩⟩
theorem ok_ref06_sameTypeDef : CallOk Tryz.prog 87 := ⟨⟨_, Tryz.func87, rfl, by decide +kernel⟩⟩
theorem ok_ref06_SameFields : CallOk Tryz.prog 88 := ⟨⟨_, Tryz.func88, rfl, by decide +kernel⟩⟩
theorem ok_ref06_SameRule : CallOk Tryz.prog 89 := ⟨⟨_, Tryz.func89, rfl, by decide +kernel⟩⟩
theorem ok_ref06_SameBody : CallOk Tryz.prog 90 := ⟨⟨_, Tryz.func90, rfl, by decide +kernel⟩⟩
theorem ok_ref02_Same : CallOk Tryz.prog 94 := ⟨⟨_, Tryz.func94, rfl, by decide +kernel⟩⟩
theorem ok_ref06_SameExprs : CallOk Tryz.prog 95 := ⟨⟨_, Tryz.func95, rfl, by decide +kernel⟩⟩
theorem ok_law06_types : CallOk Tryz.prog 96 := ⟨⟨_, Tryz.func96, rfl, by decide +kernel⟩⟩
theorem ok_tree_sameType : CallOk Tryz.prog 164 := ⟨⟨_, Tryz.func164, rfl, by decide +kernel⟩⟩
theorem ok_tree_sameValue : CallOk Tryz.prog 165 := ⟨⟨_, Tryz.func165, rfl, by decide +kernel⟩⟩
theorem ok_ref06_SameTexts : CallOk Tryz.prog 166 := ⟨⟨_, Tryz.func166, rfl, by decide +kernel⟩⟩
theorem ok_ref06_SameType : CallOk Tryz.prog 167 := ⟨⟨_, Tryz.func167, rfl, by decide +kernel⟩⟩
theorem ok_ref02_SameRow : CallOk Tryz.prog 172 := ⟨⟨_, Tryz.func172, rfl, by decide +kernel⟩⟩
theorem ok_slices_EqualFunc_api_Type_api_Type_api_Type_api_Type : CallOk Tryz.prog 204 := ⟨⟨_, Tryz.func204, rfl, by decide +kernel⟩⟩
theorem ok_slices_EqualFunc_api_Value_api_Value_api_Value_api_Value : CallOk Tryz.prog 205 := ⟨⟨_, Tryz.func205, rfl, by decide +kernel⟩⟩



def c_law06_TreeSame (C : Ctx) (p_a : T_api_Module) (p_b : T_api_Module) (K : Bool → Heap → Prop) (H : Heap) : Prop :=
  Spec Tryz.prog C 4 [.agg (T_api_Module.c p_a).toArray, .agg (T_api_Module.c p_b).toArray] H (fun v H2 => ∃ (r0 : Bool), v = .bool r0 ∧ K r0 H2)
theorem c_law06_TreeSame.mono {C : Ctx} {p_a : T_api_Module} {p_b : T_api_Module} {K K2 : Bool → Heap → Prop} {H : Heap} (h : c_law06_TreeSame C p_a p_b K H) (hk : ∀ r0 H2, K r0 H2 → K2 r0 H2) : c_law06_TreeSame C p_a p_b K2 H :=
  Spec.mono h fun _ H2 ⟨r0, hv, h2⟩ => ⟨r0, hv, hk r0 H2 h2⟩
theorem c_law06_TreeSame.gh {C : Ctx} {p_a : T_api_Module} {p_b : T_api_Module} {K : Bool → Heap → Prop} {H : Heap} (h : c_law06_TreeSame C p_a p_b (fun r0 H2 => ∃ H0, Gh C H2 H0 ∧ K r0 H0) H) : c_law06_TreeSame C p_a p_b K H :=
  Spec.gh (Spec.mono h fun _ H2 ⟨r0, hv, H0, hg, hk⟩ => ⟨H0, hg, r0, hv, hk⟩)
def c_law06_large (C : Ctx) (p_m : T_api_Module) (K : Bool → Heap → Prop) (H : Heap) : Prop :=
  Spec Tryz.prog C 8 [.agg (T_api_Module.c p_m).toArray] H (fun v H2 => ∃ (r0 : Bool), v = .bool r0 ∧ K r0 H2)
theorem c_law06_large.mono {C : Ctx} {p_m : T_api_Module} {K K2 : Bool → Heap → Prop} {H : Heap} (h : c_law06_large C p_m K H) (hk : ∀ r0 H2, K r0 H2 → K2 r0 H2) : c_law06_large C p_m K2 H :=
  Spec.mono h fun _ H2 ⟨r0, hv, h2⟩ => ⟨r0, hv, hk r0 H2 h2⟩
theorem c_law06_large.gh {C : Ctx} {p_m : T_api_Module} {K : Bool → Heap → Prop} {H : Heap} (h : c_law06_large C p_m (fun r0 H2 => ∃ H0, Gh C H2 H0 ∧ K r0 H0) H) : c_law06_large C p_m K H :=
  Spec.gh (Spec.mono h fun _ H2 ⟨r0, hv, H0, hg, hk⟩ => ⟨H0, hg, r0, hv, hk⟩)
def c_law06_awake (C : Ctx) (K : Bool → Heap → Prop) (H : Heap) : Prop :=
  Spec Tryz.prog C 9 [] H (fun v H2 => ∃ (r0 : Bool), v = .bool r0 ∧ K r0 H2)
theorem c_law06_awake.mono {C : Ctx} {K K2 : Bool → Heap → Prop} {H : Heap} (h : c_law06_awake C  K H) (hk : ∀ r0 H2, K r0 H2 → K2 r0 H2) : c_law06_awake C  K2 H :=
  Spec.mono h fun _ H2 ⟨r0, hv, h2⟩ => ⟨r0, hv, hk r0 H2 h2⟩
theorem c_law06_awake.gh {C : Ctx} {K : Bool → Heap → Prop} {H : Heap} (h : c_law06_awake C  (fun r0 H2 => ∃ H0, Gh C H2 H0 ∧ K r0 H0) H) : c_law06_awake C  K H :=
  Spec.gh (Spec.mono h fun _ H2 ⟨r0, hv, H0, hg, hk⟩ => ⟨H0, hg, r0, hv, hk⟩)
def c_tree_Same (C : Ctx) (p_a : T_api_Module) (p_b : T_api_Module) (K : Bool → Heap → Prop) (H : Heap) : Prop :=
  Spec Tryz.prog C 14 [.agg (T_api_Module.c p_a).toArray, .agg (T_api_Module.c p_b).toArray] H (fun v H2 => ∃ (r0 : Bool), v = .bool r0 ∧ K r0 H2)
theorem c_tree_Same.mono {C : Ctx} {p_a : T_api_Module} {p_b : T_api_Module} {K K2 : Bool → Heap → Prop} {H : Heap} (h : c_tree_Same C p_a p_b K H) (hk : ∀ r0 H2, K r0 H2 → K2 r0 H2) : c_tree_Same C p_a p_b K2 H :=
  Spec.mono h fun _ H2 ⟨r0, hv, h2⟩ => ⟨r0, hv, hk r0 H2 h2⟩
theorem c_tree_Same.gh {C : Ctx} {p_a : T_api_Module} {p_b : T_api_Module} {K : Bool → Heap → Prop} {H : Heap} (h : c_tree_Same C p_a p_b (fun r0 H2 => ∃ H0, Gh C H2 H0 ∧ K r0 H0) H) : c_tree_Same C p_a p_b K H :=
  Spec.gh (Spec.mono h fun _ H2 ⟨r0, hv, H0, hg, hk⟩ => ⟨H0, hg, r0, hv, hk⟩)
def c_ref06_Same (C : Ctx) (p_a : T_api_Module) (p_b : T_api_Module) (K : Bool → Heap → Prop) (H : Heap) : Prop :=
  Spec Tryz.prog C 15 [.agg (T_api_Module.c p_a).toArray, .agg (T_api_Module.c p_b).toArray] H (fun v H2 => ∃ (r0 : Bool), v = .bool r0 ∧ K r0 H2)
theorem c_ref06_Same.mono {C : Ctx} {p_a : T_api_Module} {p_b : T_api_Module} {K K2 : Bool → Heap → Prop} {H : Heap} (h : c_ref06_Same C p_a p_b K H) (hk : ∀ r0 H2, K r0 H2 → K2 r0 H2) : c_ref06_Same C p_a p_b K2 H :=
  Spec.mono h fun _ H2 ⟨r0, hv, h2⟩ => ⟨r0, hv, hk r0 H2 h2⟩
theorem c_ref06_Same.gh {C : Ctx} {p_a : T_api_Module} {p_b : T_api_Module} {K : Bool → Heap → Prop} {H : Heap} (h : c_ref06_Same C p_a p_b (fun r0 H2 => ∃ H0, Gh C H2 H0 ∧ K r0 H0) H) : c_ref06_Same C p_a p_b K H :=
  Spec.gh (Spec.mono h fun _ H2 ⟨r0, hv, H0, hg, hk⟩ => ⟨H0, hg, r0, hv, hk⟩)
def c_law06_exprs (C : Ctx) (p_l : Sl) (p_most : Int) (K : Int → Heap → Prop) (H : Heap) : Prop :=
  Spec Tryz.prog C 19 [slv p_l, .int .i64 p_most] H (fun v H2 => ∃ (r0 : Int), v = .int .i64 r0 ∧ K r0 H2)
theorem c_law06_exprs.mono {C : Ctx} {p_l : Sl} {p_most : Int} {K K2 : Int → Heap → Prop} {H : Heap} (h : c_law06_exprs C p_l p_most K H) (hk : ∀ r0 H2, K r0 H2 → K2 r0 H2) : c_law06_exprs C p_l p_most K2 H :=
  Spec.mono h fun _ H2 ⟨r0, hv, h2⟩ => ⟨r0, hv, hk r0 H2 h2⟩
theorem c_law06_exprs.gh {C : Ctx} {p_l : Sl} {p_most : Int} {K : Int → Heap → Prop} {H : Heap} (h : c_law06_exprs C p_l p_most (fun r0 H2 => ∃ H0, Gh C H2 H0 ∧ K r0 H0) H) : c_law06_exprs C p_l p_most K H :=
  Spec.gh (Spec.mono h fun _ H2 ⟨r0, hv, H0, hg, hk⟩ => ⟨H0, hg, r0, hv, hk⟩)
def c_ref06_SameExpr (C : Ctx) (p_a : T_api_Expr) (p_b : T_api_Expr) (K : Bool → Heap → Prop) (H : Heap) : Prop :=
  Spec Tryz.prog C 20 [.agg (T_api_Expr.c p_a).toArray, .agg (T_api_Expr.c p_b).toArray] H (fun v H2 => ∃ (r0 : Bool), v = .bool r0 ∧ K r0 H2)
theorem c_ref06_SameExpr.mono {C : Ctx} {p_a : T_api_Expr} {p_b : T_api_Expr} {K K2 : Bool → Heap → Prop} {H : Heap} (h : c_ref06_SameExpr C p_a p_b K H) (hk : ∀ r0 H2, K r0 H2 → K2 r0 H2) : c_ref06_SameExpr C p_a p_b K2 H :=
  Spec.mono h fun _ H2 ⟨r0, hv, h2⟩ => ⟨r0, hv, hk r0 H2 h2⟩
theorem c_ref06_SameExpr.gh {C : Ctx} {p_a : T_api_Expr} {p_b : T_api_Expr} {K : Bool → Heap → Prop} {H : Heap} (h : c_ref06_SameExpr C p_a p_b (fun r0 H2 => ∃ H0, Gh C H2 H0 ∧ K r0 H0) H) : c_ref06_SameExpr C p_a p_b K H :=
  Spec.gh (Spec.mono h fun _ H2 ⟨r0, hv, H0, hg, hk⟩ => ⟨H0, hg, r0, hv, hk⟩)
def c_law06_fields (C : Ctx) (p_l : Sl) (p_most : Int) (K : Int → Heap → Prop) (H : Heap) : Prop :=
  Spec Tryz.prog C 21 [slv p_l, .int .i64 p_most] H (fun v H2 => ∃ (r0 : Int), v = .int .i64 r0 ∧ K r0 H2)
theorem c_law06_fields.mono {C : Ctx} {p_l : Sl} {p_most : Int} {K K2 : Int → Heap → Prop} {H : Heap} (h : c_law06_fields C p_l p_most K H) (hk : ∀ r0 H2, K r0 H2 → K2 r0 H2) : c_law06_fields C p_l p_most K2 H :=
  Spec.mono h fun _ H2 ⟨r0, hv, h2⟩ => ⟨r0, hv, hk r0 H2 h2⟩
theorem c_law06_fields.gh {C : Ctx} {p_l : Sl} {p_most : Int} {K : Int → Heap → Prop} {H : Heap} (h : c_law06_fields C p_l p_most (fun r0 H2 => ∃ H0, Gh C H2 H0 ∧ K r0 H0) H) : c_law06_fields C p_l p_most K H :=
  Spec.gh (Spec.mono h fun _ H2 ⟨r0, hv, H0, hg, hk⟩ => ⟨H0, hg, r0, hv, hk⟩)
def c_law06_body (C : Ctx) (p_l : Sl) (p_most : Int) (K : Int → Heap → Prop) (H : Heap) : Prop :=
  Spec Tryz.prog C 22 [slv p_l, .int .i64 p_most] H (fun v H2 => ∃ (r0 : Int), v = .int .i64 r0 ∧ K r0 H2)
theorem c_law06_body.mono {C : Ctx} {p_l : Sl} {p_most : Int} {K K2 : Int → Heap → Prop} {H : Heap} (h : c_law06_body C p_l p_most K H) (hk : ∀ r0 H2, K r0 H2 → K2 r0 H2) : c_law06_body C p_l p_most K2 H :=
  Spec.mono h fun _ H2 ⟨r0, hv, h2⟩ => ⟨r0, hv, hk r0 H2 h2⟩
theorem c_law06_body.gh {C : Ctx} {p_l : Sl} {p_most : Int} {K : Int → Heap → Prop} {H : Heap} (h : c_law06_body C p_l p_most (fun r0 H2 => ∃ H0, Gh C H2 H0 ∧ K r0 H0) H) : c_law06_body C p_l p_most K H :=
  Spec.gh (Spec.mono h fun _ H2 ⟨r0, hv, H0, hg, hk⟩ => ⟨H0, hg, r0, hv, hk⟩)
def c_slices_EqualFunc_api_Import_api_Import_api_Import_api_Import (C : Ctx) (p_s1 : Sl) (p_s2 : Sl) (p_eq : Value) (K : Bool → Heap → Prop) (H : Heap) : Prop :=
  Spec Tryz.prog C 68 [slv p_s1, slv p_s2, p_eq] H (fun v H2 => ∃ (r0 : Bool), v = .bool r0 ∧ K r0 H2)
theorem c_slices_EqualFunc_api_Import_api_Import_api_Import_api_Import.mono {C : Ctx} {p_s1 : Sl} {p_s2 : Sl} {p_eq : Value} {K K2 : Bool → Heap → Prop} {H : Heap} (h : c_slices_EqualFunc_api_Import_api_Import_api_Import_api_Import C p_s1 p_s2 p_eq K H) (hk : ∀ r0 H2, K r0 H2 → K2 r0 H2) : c_slices_EqualFunc_api_Import_api_Import_api_Import_api_Import C p_s1 p_s2 p_eq K2 H :=
  Spec.mono h fun _ H2 ⟨r0, hv, h2⟩ => ⟨r0, hv, hk r0 H2 h2⟩
theorem c_slices_EqualFunc_api_Import_api_Import_api_Import_api_Import.gh {C : Ctx} {p_s1 : Sl} {p_s2 : Sl} {p_eq : Value} {K : Bool → Heap → Prop} {H : Heap} (h : c_slices_EqualFunc_api_Import_api_Import_api_Import_api_Import C p_s1 p_s2 p_eq (fun r0 H2 => ∃ H0, Gh C H2 H0 ∧ K r0 H0) H) : c_slices_EqualFunc_api_Import_api_Import_api_Import_api_Import C p_s1 p_s2 p_eq K H :=
  Spec.gh (Spec.mono h fun _ H2 ⟨r0, hv, H0, hg, hk⟩ => ⟨H0, hg, r0, hv, hk⟩)
def c_tree_Same_1 (C : Ctx) (p_x : T_api_Import) (p_y : T_api_Import) (K : Bool → Heap → Prop) (H : Heap) : Prop :=
  Spec Tryz.prog C 69 [.agg (T_api_Import.c p_x).toArray, .agg (T_api_Import.c p_y).toArray] H (fun v H2 => ∃ (r0 : Bool), v = .bool r0 ∧ K r0 H2)
theorem c_tree_Same_1.mono {C : Ctx} {p_x : T_api_Import} {p_y : T_api_Import} {K K2 : Bool → Heap → Prop} {H : Heap} (h : c_tree_Same_1 C p_x p_y K H) (hk : ∀ r0 H2, K r0 H2 → K2 r0 H2) : c_tree_Same_1 C p_x p_y K2 H :=
  Spec.mono h fun _ H2 ⟨r0, hv, h2⟩ => ⟨r0, hv, hk r0 H2 h2⟩
theorem c_tree_Same_1.gh {C : Ctx} {p_x : T_api_Import} {p_y : T_api_Import} {K : Bool → Heap → Prop} {H : Heap} (h : c_tree_Same_1 C p_x p_y (fun r0 H2 => ∃ H0, Gh C H2 H0 ∧ K r0 H0) H) : c_tree_Same_1 C p_x p_y K H :=
  Spec.gh (Spec.mono h fun _ H2 ⟨r0, hv, H0, hg, hk⟩ => ⟨H0, hg, r0, hv, hk⟩)
def c_slices_EqualFunc_api_TypeDef_api_TypeDef_api_TypeDef_api_TypeDef (C : Ctx) (p_s1 : Sl) (p_s2 : Sl) (p_eq : Value) (K : Bool → Heap → Prop) (H : Heap) : Prop :=
  Spec Tryz.prog C 70 [slv p_s1, slv p_s2, p_eq] H (fun v H2 => ∃ (r0 : Bool), v = .bool r0 ∧ K r0 H2)
theorem c_slices_EqualFunc_api_TypeDef_api_TypeDef_api_TypeDef_api_TypeDef.mono {C : Ctx} {p_s1 : Sl} {p_s2 : Sl} {p_eq : Value} {K K2 : Bool → Heap → Prop} {H : Heap} (h : c_slices_EqualFunc_api_TypeDef_api_TypeDef_api_TypeDef_api_TypeDef C p_s1 p_s2 p_eq K H) (hk : ∀ r0 H2, K r0 H2 → K2 r0 H2) : c_slices_EqualFunc_api_TypeDef_api_TypeDef_api_TypeDef_api_TypeDef C p_s1 p_s2 p_eq K2 H :=
  Spec.mono h fun _ H2 ⟨r0, hv, h2⟩ => ⟨r0, hv, hk r0 H2 h2⟩
theorem c_slices_EqualFunc_api_TypeDef_api_TypeDef_api_TypeDef_api_TypeDef.gh {C : Ctx} {p_s1 : Sl} {p_s2 : Sl} {p_eq : Value} {K : Bool → Heap → Prop} {H : Heap} (h : c_slices_EqualFunc_api_TypeDef_api_TypeDef_api_TypeDef_api_TypeDef C p_s1 p_s2 p_eq (fun r0 H2 => ∃ H0, Gh C H2 H0 ∧ K r0 H0) H) : c_slices_EqualFunc_api_TypeDef_api_TypeDef_api_TypeDef_api_TypeDef C p_s1 p_s2 p_eq K H :=
  Spec.gh (Spec.mono h fun _ H2 ⟨r0, hv, H0, hg, hk⟩ => ⟨H0, hg, r0, hv, hk⟩)
def c_tree_Same_2 (C : Ctx) (p_x : T_api_TypeDef) (p_y : T_api_TypeDef) (K : Bool → Heap → Prop) (H : Heap) : Prop :=
  Spec Tryz.prog C 71 [.agg (T_api_TypeDef.c p_x).toArray, .agg (T_api_TypeDef.c p_y).toArray] H (fun v H2 => ∃ (r0 : Bool), v = .bool r0 ∧ K r0 H2)
theorem c_tree_Same_2.mono {C : Ctx} {p_x : T_api_TypeDef} {p_y : T_api_TypeDef} {K K2 : Bool → Heap → Prop} {H : Heap} (h : c_tree_Same_2 C p_x p_y K H) (hk : ∀ r0 H2, K r0 H2 → K2 r0 H2) : c_tree_Same_2 C p_x p_y K2 H :=
  Spec.mono h fun _ H2 ⟨r0, hv, h2⟩ => ⟨r0, hv, hk r0 H2 h2⟩
theorem c_tree_Same_2.gh {C : Ctx} {p_x : T_api_TypeDef} {p_y : T_api_TypeDef} {K : Bool → Heap → Prop} {H : Heap} (h : c_tree_Same_2 C p_x p_y (fun r0 H2 => ∃ H0, Gh C H2 H0 ∧ K r0 H0) H) : c_tree_Same_2 C p_x p_y K H :=
  Spec.gh (Spec.mono h fun _ H2 ⟨r0, hv, H0, hg, hk⟩ => ⟨H0, hg, r0, hv, hk⟩)
def c_slices_Equal_string_string (C : Ctx) (p_s1 : Sl) (p_s2 : Sl) (K : Bool → Heap → Prop) (H : Heap) : Prop :=
  Spec Tryz.prog C 72 [slv p_s1, slv p_s2] H (fun v H2 => ∃ (r0 : Bool), v = .bool r0 ∧ K r0 H2)
theorem c_slices_Equal_string_string.mono {C : Ctx} {p_s1 : Sl} {p_s2 : Sl} {K K2 : Bool → Heap → Prop} {H : Heap} (h : c_slices_Equal_string_string C p_s1 p_s2 K H) (hk : ∀ r0 H2, K r0 H2 → K2 r0 H2) : c_slices_Equal_string_string C p_s1 p_s2 K2 H :=
  Spec.mono h fun _ H2 ⟨r0, hv, h2⟩ => ⟨r0, hv, hk r0 H2 h2⟩
theorem c_slices_Equal_string_string.gh {C : Ctx} {p_s1 : Sl} {p_s2 : Sl} {K : Bool → Heap → Prop} {H : Heap} (h : c_slices_Equal_string_string C p_s1 p_s2 (fun r0 H2 => ∃ H0, Gh C H2 H0 ∧ K r0 H0) H) : c_slices_Equal_string_string C p_s1 p_s2 K H :=
  Spec.gh (Spec.mono h fun _ H2 ⟨r0, hv, H0, hg, hk⟩ => ⟨H0, hg, r0, hv, hk⟩)
def c_slices_EqualFunc_api_ConsDef_api_ConsDef_api_ConsDef_api_ConsDef (C : Ctx) (p_s1 : Sl) (p_s2 : Sl) (p_eq : Value) (K : Bool → Heap → Prop) (H : Heap) : Prop :=
  Spec Tryz.prog C 73 [slv p_s1, slv p_s2, p_eq] H (fun v H2 => ∃ (r0 : Bool), v = .bool r0 ∧ K r0 H2)
theorem c_slices_EqualFunc_api_ConsDef_api_ConsDef_api_ConsDef_api_ConsDef.mono {C : Ctx} {p_s1 : Sl} {p_s2 : Sl} {p_eq : Value} {K K2 : Bool → Heap → Prop} {H : Heap} (h : c_slices_EqualFunc_api_ConsDef_api_ConsDef_api_ConsDef_api_ConsDef C p_s1 p_s2 p_eq K H) (hk : ∀ r0 H2, K r0 H2 → K2 r0 H2) : c_slices_EqualFunc_api_ConsDef_api_ConsDef_api_ConsDef_api_ConsDef C p_s1 p_s2 p_eq K2 H :=
  Spec.mono h fun _ H2 ⟨r0, hv, h2⟩ => ⟨r0, hv, hk r0 H2 h2⟩
theorem c_slices_EqualFunc_api_ConsDef_api_ConsDef_api_ConsDef_api_ConsDef.gh {C : Ctx} {p_s1 : Sl} {p_s2 : Sl} {p_eq : Value} {K : Bool → Heap → Prop} {H : Heap} (h : c_slices_EqualFunc_api_ConsDef_api_ConsDef_api_ConsDef_api_ConsDef C p_s1 p_s2 p_eq (fun r0 H2 => ∃ H0, Gh C H2 H0 ∧ K r0 H0) H) : c_slices_EqualFunc_api_ConsDef_api_ConsDef_api_ConsDef_api_ConsDef C p_s1 p_s2 p_eq K H :=
  Spec.gh (Spec.mono h fun _ H2 ⟨r0, hv, H0, hg, hk⟩ => ⟨H0, hg, r0, hv, hk⟩)
def c_tree_Same_2_1 (C : Ctx) (p_c : T_api_ConsDef) (p_d : T_api_ConsDef) (K : Bool → Heap → Prop) (H : Heap) : Prop :=
  Spec Tryz.prog C 74 [.agg (T_api_ConsDef.c p_c).toArray, .agg (T_api_ConsDef.c p_d).toArray] H (fun v H2 => ∃ (r0 : Bool), v = .bool r0 ∧ K r0 H2)
theorem c_tree_Same_2_1.mono {C : Ctx} {p_c : T_api_ConsDef} {p_d : T_api_ConsDef} {K K2 : Bool → Heap → Prop} {H : Heap} (h : c_tree_Same_2_1 C p_c p_d K H) (hk : ∀ r0 H2, K r0 H2 → K2 r0 H2) : c_tree_Same_2_1 C p_c p_d K2 H :=
  Spec.mono h fun _ H2 ⟨r0, hv, h2⟩ => ⟨r0, hv, hk r0 H2 h2⟩
theorem c_tree_Same_2_1.gh {C : Ctx} {p_c : T_api_ConsDef} {p_d : T_api_ConsDef} {K : Bool → Heap → Prop} {H : Heap} (h : c_tree_Same_2_1 C p_c p_d (fun r0 H2 => ∃ H0, Gh C H2 H0 ∧ K r0 H0) H) : c_tree_Same_2_1 C p_c p_d K H :=
  Spec.gh (Spec.mono h fun _ H2 ⟨r0, hv, H0, hg, hk⟩ => ⟨H0, hg, r0, hv, hk⟩)
def c_slices_EqualFunc_api_FieldDef_api_FieldDef_api_FieldDef_api_FieldDef (C : Ctx) (p_s1 : Sl) (p_s2 : Sl) (p_eq : Value) (K : Bool → Heap → Prop) (H : Heap) : Prop :=
  Spec Tryz.prog C 75 [slv p_s1, slv p_s2, p_eq] H (fun v H2 => ∃ (r0 : Bool), v = .bool r0 ∧ K r0 H2)
theorem c_slices_EqualFunc_api_FieldDef_api_FieldDef_api_FieldDef_api_FieldDef.mono {C : Ctx} {p_s1 : Sl} {p_s2 : Sl} {p_eq : Value} {K K2 : Bool → Heap → Prop} {H : Heap} (h : c_slices_EqualFunc_api_FieldDef_api_FieldDef_api_FieldDef_api_FieldDef C p_s1 p_s2 p_eq K H) (hk : ∀ r0 H2, K r0 H2 → K2 r0 H2) : c_slices_EqualFunc_api_FieldDef_api_FieldDef_api_FieldDef_api_FieldDef C p_s1 p_s2 p_eq K2 H :=
  Spec.mono h fun _ H2 ⟨r0, hv, h2⟩ => ⟨r0, hv, hk r0 H2 h2⟩
theorem c_slices_EqualFunc_api_FieldDef_api_FieldDef_api_FieldDef_api_FieldDef.gh {C : Ctx} {p_s1 : Sl} {p_s2 : Sl} {p_eq : Value} {K : Bool → Heap → Prop} {H : Heap} (h : c_slices_EqualFunc_api_FieldDef_api_FieldDef_api_FieldDef_api_FieldDef C p_s1 p_s2 p_eq (fun r0 H2 => ∃ H0, Gh C H2 H0 ∧ K r0 H0) H) : c_slices_EqualFunc_api_FieldDef_api_FieldDef_api_FieldDef_api_FieldDef C p_s1 p_s2 p_eq K H :=
  Spec.gh (Spec.mono h fun _ H2 ⟨r0, hv, H0, hg, hk⟩ => ⟨H0, hg, r0, hv, hk⟩)
def c_tree_sameField (C : Ctx) (p_a : T_api_FieldDef) (p_b : T_api_FieldDef) (K : Bool → Heap → Prop) (H : Heap) : Prop :=
  Spec Tryz.prog C 76 [.agg (T_api_FieldDef.c p_a).toArray, .agg (T_api_FieldDef.c p_b).toArray] H (fun v H2 => ∃ (r0 : Bool), v = .bool r0 ∧ K r0 H2)
theorem c_tree_sameField.mono {C : Ctx} {p_a : T_api_FieldDef} {p_b : T_api_FieldDef} {K K2 : Bool → Heap → Prop} {H : Heap} (h : c_tree_sameField C p_a p_b K H) (hk : ∀ r0 H2, K r0 H2 → K2 r0 H2) : c_tree_sameField C p_a p_b K2 H :=
  Spec.mono h fun _ H2 ⟨r0, hv, h2⟩ => ⟨r0, hv, hk r0 H2 h2⟩
theorem c_tree_sameField.gh {C : Ctx} {p_a : T_api_FieldDef} {p_b : T_api_FieldDef} {K : Bool → Heap → Prop} {H : Heap} (h : c_tree_sameField C p_a p_b (fun r0 H2 => ∃ H0, Gh C H2 H0 ∧ K r0 H0) H) : c_tree_sameField C p_a p_b K H :=
  Spec.gh (Spec.mono h fun _ H2 ⟨r0, hv, H0, hg, hk⟩ => ⟨H0, hg, r0, hv, hk⟩)
def c_slices_EqualFunc_api_RelDef_api_RelDef_api_RelDef_api_RelDef (C : Ctx) (p_s1 : Sl) (p_s2 : Sl) (p_eq : Value) (K : Bool → Heap → Prop) (H : Heap) : Prop :=
  Spec Tryz.prog C 77 [slv p_s1, slv p_s2, p_eq] H (fun v H2 => ∃ (r0 : Bool), v = .bool r0 ∧ K r0 H2)
theorem c_slices_EqualFunc_api_RelDef_api_RelDef_api_RelDef_api_RelDef.mono {C : Ctx} {p_s1 : Sl} {p_s2 : Sl} {p_eq : Value} {K K2 : Bool → Heap → Prop} {H : Heap} (h : c_slices_EqualFunc_api_RelDef_api_RelDef_api_RelDef_api_RelDef C p_s1 p_s2 p_eq K H) (hk : ∀ r0 H2, K r0 H2 → K2 r0 H2) : c_slices_EqualFunc_api_RelDef_api_RelDef_api_RelDef_api_RelDef C p_s1 p_s2 p_eq K2 H :=
  Spec.mono h fun _ H2 ⟨r0, hv, h2⟩ => ⟨r0, hv, hk r0 H2 h2⟩
theorem c_slices_EqualFunc_api_RelDef_api_RelDef_api_RelDef_api_RelDef.gh {C : Ctx} {p_s1 : Sl} {p_s2 : Sl} {p_eq : Value} {K : Bool → Heap → Prop} {H : Heap} (h : c_slices_EqualFunc_api_RelDef_api_RelDef_api_RelDef_api_RelDef C p_s1 p_s2 p_eq (fun r0 H2 => ∃ H0, Gh C H2 H0 ∧ K r0 H0) H) : c_slices_EqualFunc_api_RelDef_api_RelDef_api_RelDef_api_RelDef C p_s1 p_s2 p_eq K H :=
  Spec.gh (Spec.mono h fun _ H2 ⟨r0, hv, H0, hg, hk⟩ => ⟨H0, hg, r0, hv, hk⟩)
def c_tree_Same_3 (C : Ctx) (p_x : T_api_RelDef) (p_y : T_api_RelDef) (K : Bool → Heap → Prop) (H : Heap) : Prop :=
  Spec Tryz.prog C 78 [.agg (T_api_RelDef.c p_x).toArray, .agg (T_api_RelDef.c p_y).toArray] H (fun v H2 => ∃ (r0 : Bool), v = .bool r0 ∧ K r0 H2)
theorem c_tree_Same_3.mono {C : Ctx} {p_x : T_api_RelDef} {p_y : T_api_RelDef} {K K2 : Bool → Heap → Prop} {H : Heap} (h : c_tree_Same_3 C p_x p_y K H) (hk : ∀ r0 H2, K r0 H2 → K2 r0 H2) : c_tree_Same_3 C p_x p_y K2 H :=
  Spec.mono h fun _ H2 ⟨r0, hv, h2⟩ => ⟨r0, hv, hk r0 H2 h2⟩
theorem c_tree_Same_3.gh {C : Ctx} {p_x : T_api_RelDef} {p_y : T_api_RelDef} {K : Bool → Heap → Prop} {H : Heap} (h : c_tree_Same_3 C p_x p_y (fun r0 H2 => ∃ H0, Gh C H2 H0 ∧ K r0 H0) H) : c_tree_Same_3 C p_x p_y K H :=
  Spec.gh (Spec.mono h fun _ H2 ⟨r0, hv, H0, hg, hk⟩ => ⟨H0, hg, r0, hv, hk⟩)
def c_slices_EqualFunc_api_Rule_api_Rule_api_Rule_api_Rule (C : Ctx) (p_s1 : Sl) (p_s2 : Sl) (p_eq : Value) (K : Bool → Heap → Prop) (H : Heap) : Prop :=
  Spec Tryz.prog C 79 [slv p_s1, slv p_s2, p_eq] H (fun v H2 => ∃ (r0 : Bool), v = .bool r0 ∧ K r0 H2)
theorem c_slices_EqualFunc_api_Rule_api_Rule_api_Rule_api_Rule.mono {C : Ctx} {p_s1 : Sl} {p_s2 : Sl} {p_eq : Value} {K K2 : Bool → Heap → Prop} {H : Heap} (h : c_slices_EqualFunc_api_Rule_api_Rule_api_Rule_api_Rule C p_s1 p_s2 p_eq K H) (hk : ∀ r0 H2, K r0 H2 → K2 r0 H2) : c_slices_EqualFunc_api_Rule_api_Rule_api_Rule_api_Rule C p_s1 p_s2 p_eq K2 H :=
  Spec.mono h fun _ H2 ⟨r0, hv, h2⟩ => ⟨r0, hv, hk r0 H2 h2⟩
theorem c_slices_EqualFunc_api_Rule_api_Rule_api_Rule_api_Rule.gh {C : Ctx} {p_s1 : Sl} {p_s2 : Sl} {p_eq : Value} {K : Bool → Heap → Prop} {H : Heap} (h : c_slices_EqualFunc_api_Rule_api_Rule_api_Rule_api_Rule C p_s1 p_s2 p_eq (fun r0 H2 => ∃ H0, Gh C H2 H0 ∧ K r0 H0) H) : c_slices_EqualFunc_api_Rule_api_Rule_api_Rule_api_Rule C p_s1 p_s2 p_eq K H :=
  Spec.gh (Spec.mono h fun _ H2 ⟨r0, hv, H0, hg, hk⟩ => ⟨H0, hg, r0, hv, hk⟩)
def c_tree_Same_4 (C : Ctx) (p_x : T_api_Rule) (p_y : T_api_Rule) (K : Bool → Heap → Prop) (H : Heap) : Prop :=
  Spec Tryz.prog C 80 [.agg (T_api_Rule.c p_x).toArray, .agg (T_api_Rule.c p_y).toArray] H (fun v H2 => ∃ (r0 : Bool), v = .bool r0 ∧ K r0 H2)
theorem c_tree_Same_4.mono {C : Ctx} {p_x : T_api_Rule} {p_y : T_api_Rule} {K K2 : Bool → Heap → Prop} {H : Heap} (h : c_tree_Same_4 C p_x p_y K H) (hk : ∀ r0 H2, K r0 H2 → K2 r0 H2) : c_tree_Same_4 C p_x p_y K2 H :=
  Spec.mono h fun _ H2 ⟨r0, hv, h2⟩ => ⟨r0, hv, hk r0 H2 h2⟩
theorem c_tree_Same_4.gh {C : Ctx} {p_x : T_api_Rule} {p_y : T_api_Rule} {K : Bool → Heap → Prop} {H : Heap} (h : c_tree_Same_4 C p_x p_y (fun r0 H2 => ∃ H0, Gh C H2 H0 ∧ K r0 H0) H) : c_tree_Same_4 C p_x p_y K H :=
  Spec.gh (Spec.mono h fun _ H2 ⟨r0, hv, H0, hg, hk⟩ => ⟨H0, hg, r0, hv, hk⟩)
def c_slices_EqualFunc_api_Expr_api_Expr_api_Expr_api_Expr (C : Ctx) (p_s1 : Sl) (p_s2 : Sl) (p_eq : Value) (K : Bool → Heap → Prop) (H : Heap) : Prop :=
  Spec Tryz.prog C 81 [slv p_s1, slv p_s2, p_eq] H (fun v H2 => ∃ (r0 : Bool), v = .bool r0 ∧ K r0 H2)
theorem c_slices_EqualFunc_api_Expr_api_Expr_api_Expr_api_Expr.mono {C : Ctx} {p_s1 : Sl} {p_s2 : Sl} {p_eq : Value} {K K2 : Bool → Heap → Prop} {H : Heap} (h : c_slices_EqualFunc_api_Expr_api_Expr_api_Expr_api_Expr C p_s1 p_s2 p_eq K H) (hk : ∀ r0 H2, K r0 H2 → K2 r0 H2) : c_slices_EqualFunc_api_Expr_api_Expr_api_Expr_api_Expr C p_s1 p_s2 p_eq K2 H :=
  Spec.mono h fun _ H2 ⟨r0, hv, h2⟩ => ⟨r0, hv, hk r0 H2 h2⟩
theorem c_slices_EqualFunc_api_Expr_api_Expr_api_Expr_api_Expr.gh {C : Ctx} {p_s1 : Sl} {p_s2 : Sl} {p_eq : Value} {K : Bool → Heap → Prop} {H : Heap} (h : c_slices_EqualFunc_api_Expr_api_Expr_api_Expr_api_Expr C p_s1 p_s2 p_eq (fun r0 H2 => ∃ H0, Gh C H2 H0 ∧ K r0 H0) H) : c_slices_EqualFunc_api_Expr_api_Expr_api_Expr_api_Expr C p_s1 p_s2 p_eq K H :=
  Spec.gh (Spec.mono h fun _ H2 ⟨r0, hv, H0, hg, hk⟩ => ⟨H0, hg, r0, hv, hk⟩)
def c_tree_sameExpr (C : Ctx) (p_a : T_api_Expr) (p_b : T_api_Expr) (K : Bool → Heap → Prop) (H : Heap) : Prop :=
  Spec Tryz.prog C 82 [.agg (T_api_Expr.c p_a).toArray, .agg (T_api_Expr.c p_b).toArray] H (fun v H2 => ∃ (r0 : Bool), v = .bool r0 ∧ K r0 H2)
theorem c_tree_sameExpr.mono {C : Ctx} {p_a : T_api_Expr} {p_b : T_api_Expr} {K K2 : Bool → Heap → Prop} {H : Heap} (h : c_tree_sameExpr C p_a p_b K H) (hk : ∀ r0 H2, K r0 H2 → K2 r0 H2) : c_tree_sameExpr C p_a p_b K2 H :=
  Spec.mono h fun _ H2 ⟨r0, hv, h2⟩ => ⟨r0, hv, hk r0 H2 h2⟩
theorem c_tree_sameExpr.gh {C : Ctx} {p_a : T_api_Expr} {p_b : T_api_Expr} {K : Bool → Heap → Prop} {H : Heap} (h : c_tree_sameExpr C p_a p_b (fun r0 H2 => ∃ H0, Gh C H2 H0 ∧ K r0 H0) H) : c_tree_sameExpr C p_a p_b K H :=
  Spec.gh (Spec.mono h fun _ H2 ⟨r0, hv, H0, hg, hk⟩ => ⟨H0, hg, r0, hv, hk⟩)
def c_slices_EqualFunc_api_Literal_api_Literal_api_Literal_api_Literal (C : Ctx) (p_s1 : Sl) (p_s2 : Sl) (p_eq : Value) (K : Bool → Heap → Prop) (H : Heap) : Prop :=
  Spec Tryz.prog C 83 [slv p_s1, slv p_s2, p_eq] H (fun v H2 => ∃ (r0 : Bool), v = .bool r0 ∧ K r0 H2)
theorem c_slices_EqualFunc_api_Literal_api_Literal_api_Literal_api_Literal.mono {C : Ctx} {p_s1 : Sl} {p_s2 : Sl} {p_eq : Value} {K K2 : Bool → Heap → Prop} {H : Heap} (h : c_slices_EqualFunc_api_Literal_api_Literal_api_Literal_api_Literal C p_s1 p_s2 p_eq K H) (hk : ∀ r0 H2, K r0 H2 → K2 r0 H2) : c_slices_EqualFunc_api_Literal_api_Literal_api_Literal_api_Literal C p_s1 p_s2 p_eq K2 H :=
  Spec.mono h fun _ H2 ⟨r0, hv, h2⟩ => ⟨r0, hv, hk r0 H2 h2⟩
theorem c_slices_EqualFunc_api_Literal_api_Literal_api_Literal_api_Literal.gh {C : Ctx} {p_s1 : Sl} {p_s2 : Sl} {p_eq : Value} {K : Bool → Heap → Prop} {H : Heap} (h : c_slices_EqualFunc_api_Literal_api_Literal_api_Literal_api_Literal C p_s1 p_s2 p_eq (fun r0 H2 => ∃ H0, Gh C H2 H0 ∧ K r0 H0) H) : c_slices_EqualFunc_api_Literal_api_Literal_api_Literal_api_Literal C p_s1 p_s2 p_eq K H :=
  Spec.gh (Spec.mono h fun _ H2 ⟨r0, hv, H0, hg, hk⟩ => ⟨H0, hg, r0, hv, hk⟩)
def c_tree_sameLiteral (C : Ctx) (p_a : T_api_Literal) (p_b : T_api_Literal) (K : Bool → Heap → Prop) (H : Heap) : Prop :=
  Spec Tryz.prog C 84 [.agg (T_api_Literal.c p_a).toArray, .agg (T_api_Literal.c p_b).toArray] H (fun v H2 => ∃ (r0 : Bool), v = .bool r0 ∧ K r0 H2)
theorem c_tree_sameLiteral.mono {C : Ctx} {p_a : T_api_Literal} {p_b : T_api_Literal} {K K2 : Bool → Heap → Prop} {H : Heap} (h : c_tree_sameLiteral C p_a p_b K H) (hk : ∀ r0 H2, K r0 H2 → K2 r0 H2) : c_tree_sameLiteral C p_a p_b K2 H :=
  Spec.mono h fun _ H2 ⟨r0, hv, h2⟩ => ⟨r0, hv, hk r0 H2 h2⟩
theorem c_tree_sameLiteral.gh {C : Ctx} {p_a : T_api_Literal} {p_b : T_api_Literal} {K : Bool → Heap → Prop} {H : Heap} (h : c_tree_sameLiteral C p_a p_b (fun r0 H2 => ∃ H0, Gh C H2 H0 ∧ K r0 H0) H) : c_tree_sameLiteral C p_a p_b K H :=
  Spec.gh (Spec.mono h fun _ H2 ⟨r0, hv, H0, hg, hk⟩ => ⟨H0, hg, r0, hv, hk⟩)
def c_slices_EqualFunc_api_Never_api_Never_api_Never_api_Never (C : Ctx) (p_s1 : Sl) (p_s2 : Sl) (p_eq : Value) (K : Bool → Heap → Prop) (H : Heap) : Prop :=
  Spec Tryz.prog C 85 [slv p_s1, slv p_s2, p_eq] H (fun v H2 => ∃ (r0 : Bool), v = .bool r0 ∧ K r0 H2)
theorem c_slices_EqualFunc_api_Never_api_Never_api_Never_api_Never.mono {C : Ctx} {p_s1 : Sl} {p_s2 : Sl} {p_eq : Value} {K K2 : Bool → Heap → Prop} {H : Heap} (h : c_slices_EqualFunc_api_Never_api_Never_api_Never_api_Never C p_s1 p_s2 p_eq K H) (hk : ∀ r0 H2, K r0 H2 → K2 r0 H2) : c_slices_EqualFunc_api_Never_api_Never_api_Never_api_Never C p_s1 p_s2 p_eq K2 H :=
  Spec.mono h fun _ H2 ⟨r0, hv, h2⟩ => ⟨r0, hv, hk r0 H2 h2⟩
theorem c_slices_EqualFunc_api_Never_api_Never_api_Never_api_Never.gh {C : Ctx} {p_s1 : Sl} {p_s2 : Sl} {p_eq : Value} {K : Bool → Heap → Prop} {H : Heap} (h : c_slices_EqualFunc_api_Never_api_Never_api_Never_api_Never C p_s1 p_s2 p_eq (fun r0 H2 => ∃ H0, Gh C H2 H0 ∧ K r0 H0) H) : c_slices_EqualFunc_api_Never_api_Never_api_Never_api_Never C p_s1 p_s2 p_eq K H :=
  Spec.gh (Spec.mono h fun _ H2 ⟨r0, hv, H0, hg, hk⟩ => ⟨H0, hg, r0, hv, hk⟩)
def c_tree_Same_5 (C : Ctx) (p_x : T_api_Never) (p_y : T_api_Never) (K : Bool → Heap → Prop) (H : Heap) : Prop :=
  Spec Tryz.prog C 86 [.agg (T_api_Never.c p_x).toArray, .agg (T_api_Never.c p_y).toArray] H (fun v H2 => ∃ (r0 : Bool), v = .bool r0 ∧ K r0 H2)
theorem c_tree_Same_5.mono {C : Ctx} {p_x : T_api_Never} {p_y : T_api_Never} {K K2 : Bool → Heap → Prop} {H : Heap} (h : c_tree_Same_5 C p_x p_y K H) (hk : ∀ r0 H2, K r0 H2 → K2 r0 H2) : c_tree_Same_5 C p_x p_y K2 H :=
  Spec.mono h fun _ H2 ⟨r0, hv, h2⟩ => ⟨r0, hv, hk r0 H2 h2⟩
theorem c_tree_Same_5.gh {C : Ctx} {p_x : T_api_Never} {p_y : T_api_Never} {K : Bool → Heap → Prop} {H : Heap} (h : c_tree_Same_5 C p_x p_y (fun r0 H2 => ∃ H0, Gh C H2 H0 ∧ K r0 H0) H) : c_tree_Same_5 C p_x p_y K H :=
  Spec.gh (Spec.mono h fun _ H2 ⟨r0, hv, H0, hg, hk⟩ => ⟨H0, hg, r0, hv, hk⟩)
def c_ref06_sameTypeDef (C : Ctx) (p_a : T_api_TypeDef) (p_b : T_api_TypeDef) (K : Bool → Heap → Prop) (H : Heap) : Prop :=
  Spec Tryz.prog C 87 [.agg (T_api_TypeDef.c p_a).toArray, .agg (T_api_TypeDef.c p_b).toArray] H (fun v H2 => ∃ (r0 : Bool), v = .bool r0 ∧ K r0 H2)
theorem c_ref06_sameTypeDef.mono {C : Ctx} {p_a : T_api_TypeDef} {p_b : T_api_TypeDef} {K K2 : Bool → Heap → Prop} {H : Heap} (h : c_ref06_sameTypeDef C p_a p_b K H) (hk : ∀ r0 H2, K r0 H2 → K2 r0 H2) : c_ref06_sameTypeDef C p_a p_b K2 H :=
  Spec.mono h fun _ H2 ⟨r0, hv, h2⟩ => ⟨r0, hv, hk r0 H2 h2⟩
theorem c_ref06_sameTypeDef.gh {C : Ctx} {p_a : T_api_TypeDef} {p_b : T_api_TypeDef} {K : Bool → Heap → Prop} {H : Heap} (h : c_ref06_sameTypeDef C p_a p_b (fun r0 H2 => ∃ H0, Gh C H2 H0 ∧ K r0 H0) H) : c_ref06_sameTypeDef C p_a p_b K H :=
  Spec.gh (Spec.mono h fun _ H2 ⟨r0, hv, H0, hg, hk⟩ => ⟨H0, hg, r0, hv, hk⟩)
def c_ref06_SameFields (C : Ctx) (p_a : Sl) (p_b : Sl) (K : Bool → Heap → Prop) (H : Heap) : Prop :=
  Spec Tryz.prog C 88 [slv p_a, slv p_b] H (fun v H2 => ∃ (r0 : Bool), v = .bool r0 ∧ K r0 H2)
theorem c_ref06_SameFields.mono {C : Ctx} {p_a : Sl} {p_b : Sl} {K K2 : Bool → Heap → Prop} {H : Heap} (h : c_ref06_SameFields C p_a p_b K H) (hk : ∀ r0 H2, K r0 H2 → K2 r0 H2) : c_ref06_SameFields C p_a p_b K2 H :=
  Spec.mono h fun _ H2 ⟨r0, hv, h2⟩ => ⟨r0, hv, hk r0 H2 h2⟩
theorem c_ref06_SameFields.gh {C : Ctx} {p_a : Sl} {p_b : Sl} {K : Bool → Heap → Prop} {H : Heap} (h : c_ref06_SameFields C p_a p_b (fun r0 H2 => ∃ H0, Gh C H2 H0 ∧ K r0 H0) H) : c_ref06_SameFields C p_a p_b K H :=
  Spec.gh (Spec.mono h fun _ H2 ⟨r0, hv, H0, hg, hk⟩ => ⟨H0, hg, r0, hv, hk⟩)
def c_ref06_SameRule (C : Ctx) (p_a : T_api_Rule) (p_b : T_api_Rule) (K : Bool → Heap → Prop) (H : Heap) : Prop :=
  Spec Tryz.prog C 89 [.agg (T_api_Rule.c p_a).toArray, .agg (T_api_Rule.c p_b).toArray] H (fun v H2 => ∃ (r0 : Bool), v = .bool r0 ∧ K r0 H2)
theorem c_ref06_SameRule.mono {C : Ctx} {p_a : T_api_Rule} {p_b : T_api_Rule} {K K2 : Bool → Heap → Prop} {H : Heap} (h : c_ref06_SameRule C p_a p_b K H) (hk : ∀ r0 H2, K r0 H2 → K2 r0 H2) : c_ref06_SameRule C p_a p_b K2 H :=
  Spec.mono h fun _ H2 ⟨r0, hv, h2⟩ => ⟨r0, hv, hk r0 H2 h2⟩
theorem c_ref06_SameRule.gh {C : Ctx} {p_a : T_api_Rule} {p_b : T_api_Rule} {K : Bool → Heap → Prop} {H : Heap} (h : c_ref06_SameRule C p_a p_b (fun r0 H2 => ∃ H0, Gh C H2 H0 ∧ K r0 H0) H) : c_ref06_SameRule C p_a p_b K H :=
  Spec.gh (Spec.mono h fun _ H2 ⟨r0, hv, H0, hg, hk⟩ => ⟨H0, hg, r0, hv, hk⟩)
def c_ref06_SameBody (C : Ctx) (p_a : Sl) (p_b : Sl) (K : Bool → Heap → Prop) (H : Heap) : Prop :=
  Spec Tryz.prog C 90 [slv p_a, slv p_b] H (fun v H2 => ∃ (r0 : Bool), v = .bool r0 ∧ K r0 H2)
theorem c_ref06_SameBody.mono {C : Ctx} {p_a : Sl} {p_b : Sl} {K K2 : Bool → Heap → Prop} {H : Heap} (h : c_ref06_SameBody C p_a p_b K H) (hk : ∀ r0 H2, K r0 H2 → K2 r0 H2) : c_ref06_SameBody C p_a p_b K2 H :=
  Spec.mono h fun _ H2 ⟨r0, hv, h2⟩ => ⟨r0, hv, hk r0 H2 h2⟩
theorem c_ref06_SameBody.gh {C : Ctx} {p_a : Sl} {p_b : Sl} {K : Bool → Heap → Prop} {H : Heap} (h : c_ref06_SameBody C p_a p_b (fun r0 H2 => ∃ H0, Gh C H2 H0 ∧ K r0 H0) H) : c_ref06_SameBody C p_a p_b K H :=
  Spec.gh (Spec.mono h fun _ H2 ⟨r0, hv, H0, hg, hk⟩ => ⟨H0, hg, r0, hv, hk⟩)
def c_ref02_Same (C : Ctx) (p_a : T_api_Value) (p_b : T_api_Value) (K : Bool → Heap → Prop) (H : Heap) : Prop :=
  Spec Tryz.prog C 94 [.agg (T_api_Value.c p_a).toArray, .agg (T_api_Value.c p_b).toArray] H (fun v H2 => ∃ (r0 : Bool), v = .bool r0 ∧ K r0 H2)
theorem c_ref02_Same.mono {C : Ctx} {p_a : T_api_Value} {p_b : T_api_Value} {K K2 : Bool → Heap → Prop} {H : Heap} (h : c_ref02_Same C p_a p_b K H) (hk : ∀ r0 H2, K r0 H2 → K2 r0 H2) : c_ref02_Same C p_a p_b K2 H :=
  Spec.mono h fun _ H2 ⟨r0, hv, h2⟩ => ⟨r0, hv, hk r0 H2 h2⟩
theorem c_ref02_Same.gh {C : Ctx} {p_a : T_api_Value} {p_b : T_api_Value} {K : Bool → Heap → Prop} {H : Heap} (h : c_ref02_Same C p_a p_b (fun r0 H2 => ∃ H0, Gh C H2 H0 ∧ K r0 H0) H) : c_ref02_Same C p_a p_b K H :=
  Spec.gh (Spec.mono h fun _ H2 ⟨r0, hv, H0, hg, hk⟩ => ⟨H0, hg, r0, hv, hk⟩)
def c_ref06_SameExprs (C : Ctx) (p_a : Sl) (p_b : Sl) (K : Bool → Heap → Prop) (H : Heap) : Prop :=
  Spec Tryz.prog C 95 [slv p_a, slv p_b] H (fun v H2 => ∃ (r0 : Bool), v = .bool r0 ∧ K r0 H2)
theorem c_ref06_SameExprs.mono {C : Ctx} {p_a : Sl} {p_b : Sl} {K K2 : Bool → Heap → Prop} {H : Heap} (h : c_ref06_SameExprs C p_a p_b K H) (hk : ∀ r0 H2, K r0 H2 → K2 r0 H2) : c_ref06_SameExprs C p_a p_b K2 H :=
  Spec.mono h fun _ H2 ⟨r0, hv, h2⟩ => ⟨r0, hv, hk r0 H2 h2⟩
theorem c_ref06_SameExprs.gh {C : Ctx} {p_a : Sl} {p_b : Sl} {K : Bool → Heap → Prop} {H : Heap} (h : c_ref06_SameExprs C p_a p_b (fun r0 H2 => ∃ H0, Gh C H2 H0 ∧ K r0 H0) H) : c_ref06_SameExprs C p_a p_b K H :=
  Spec.gh (Spec.mono h fun _ H2 ⟨r0, hv, H0, hg, hk⟩ => ⟨H0, hg, r0, hv, hk⟩)
def c_law06_types (C : Ctx) (p_l : Sl) (p_most : Int) (K : Int → Heap → Prop) (H : Heap) : Prop :=
  Spec Tryz.prog C 96 [slv p_l, .int .i64 p_most] H (fun v H2 => ∃ (r0 : Int), v = .int .i64 r0 ∧ K r0 H2)
theorem c_law06_types.mono {C : Ctx} {p_l : Sl} {p_most : Int} {K K2 : Int → Heap → Prop} {H : Heap} (h : c_law06_types C p_l p_most K H) (hk : ∀ r0 H2, K r0 H2 → K2 r0 H2) : c_law06_types C p_l p_most K2 H :=
  Spec.mono h fun _ H2 ⟨r0, hv, h2⟩ => ⟨r0, hv, hk r0 H2 h2⟩
theorem c_law06_types.gh {C : Ctx} {p_l : Sl} {p_most : Int} {K : Int → Heap → Prop} {H : Heap} (h : c_law06_types C p_l p_most (fun r0 H2 => ∃ H0, Gh C H2 H0 ∧ K r0 H0) H) : c_law06_types C p_l p_most K H :=
  Spec.gh (Spec.mono h fun _ H2 ⟨r0, hv, H0, hg, hk⟩ => ⟨H0, hg, r0, hv, hk⟩)
def c_tree_sameType (C : Ctx) (p_a : T_api_Type) (p_b : T_api_Type) (K : Bool → Heap → Prop) (H : Heap) : Prop :=
  Spec Tryz.prog C 164 [.agg (T_api_Type.c p_a).toArray, .agg (T_api_Type.c p_b).toArray] H (fun v H2 => ∃ (r0 : Bool), v = .bool r0 ∧ K r0 H2)
theorem c_tree_sameType.mono {C : Ctx} {p_a : T_api_Type} {p_b : T_api_Type} {K K2 : Bool → Heap → Prop} {H : Heap} (h : c_tree_sameType C p_a p_b K H) (hk : ∀ r0 H2, K r0 H2 → K2 r0 H2) : c_tree_sameType C p_a p_b K2 H :=
  Spec.mono h fun _ H2 ⟨r0, hv, h2⟩ => ⟨r0, hv, hk r0 H2 h2⟩
theorem c_tree_sameType.gh {C : Ctx} {p_a : T_api_Type} {p_b : T_api_Type} {K : Bool → Heap → Prop} {H : Heap} (h : c_tree_sameType C p_a p_b (fun r0 H2 => ∃ H0, Gh C H2 H0 ∧ K r0 H0) H) : c_tree_sameType C p_a p_b K H :=
  Spec.gh (Spec.mono h fun _ H2 ⟨r0, hv, H0, hg, hk⟩ => ⟨H0, hg, r0, hv, hk⟩)
def c_tree_sameValue (C : Ctx) (p_a : T_api_Value) (p_b : T_api_Value) (K : Bool → Heap → Prop) (H : Heap) : Prop :=
  Spec Tryz.prog C 165 [.agg (T_api_Value.c p_a).toArray, .agg (T_api_Value.c p_b).toArray] H (fun v H2 => ∃ (r0 : Bool), v = .bool r0 ∧ K r0 H2)
theorem c_tree_sameValue.mono {C : Ctx} {p_a : T_api_Value} {p_b : T_api_Value} {K K2 : Bool → Heap → Prop} {H : Heap} (h : c_tree_sameValue C p_a p_b K H) (hk : ∀ r0 H2, K r0 H2 → K2 r0 H2) : c_tree_sameValue C p_a p_b K2 H :=
  Spec.mono h fun _ H2 ⟨r0, hv, h2⟩ => ⟨r0, hv, hk r0 H2 h2⟩
theorem c_tree_sameValue.gh {C : Ctx} {p_a : T_api_Value} {p_b : T_api_Value} {K : Bool → Heap → Prop} {H : Heap} (h : c_tree_sameValue C p_a p_b (fun r0 H2 => ∃ H0, Gh C H2 H0 ∧ K r0 H0) H) : c_tree_sameValue C p_a p_b K H :=
  Spec.gh (Spec.mono h fun _ H2 ⟨r0, hv, H0, hg, hk⟩ => ⟨H0, hg, r0, hv, hk⟩)
def c_ref06_SameTexts (C : Ctx) (p_a : Sl) (p_b : Sl) (K : Bool → Heap → Prop) (H : Heap) : Prop :=
  Spec Tryz.prog C 166 [slv p_a, slv p_b] H (fun v H2 => ∃ (r0 : Bool), v = .bool r0 ∧ K r0 H2)
theorem c_ref06_SameTexts.mono {C : Ctx} {p_a : Sl} {p_b : Sl} {K K2 : Bool → Heap → Prop} {H : Heap} (h : c_ref06_SameTexts C p_a p_b K H) (hk : ∀ r0 H2, K r0 H2 → K2 r0 H2) : c_ref06_SameTexts C p_a p_b K2 H :=
  Spec.mono h fun _ H2 ⟨r0, hv, h2⟩ => ⟨r0, hv, hk r0 H2 h2⟩
theorem c_ref06_SameTexts.gh {C : Ctx} {p_a : Sl} {p_b : Sl} {K : Bool → Heap → Prop} {H : Heap} (h : c_ref06_SameTexts C p_a p_b (fun r0 H2 => ∃ H0, Gh C H2 H0 ∧ K r0 H0) H) : c_ref06_SameTexts C p_a p_b K H :=
  Spec.gh (Spec.mono h fun _ H2 ⟨r0, hv, H0, hg, hk⟩ => ⟨H0, hg, r0, hv, hk⟩)
def c_ref06_SameType (C : Ctx) (p_a : T_api_Type) (p_b : T_api_Type) (K : Bool → Heap → Prop) (H : Heap) : Prop :=
  Spec Tryz.prog C 167 [.agg (T_api_Type.c p_a).toArray, .agg (T_api_Type.c p_b).toArray] H (fun v H2 => ∃ (r0 : Bool), v = .bool r0 ∧ K r0 H2)
theorem c_ref06_SameType.mono {C : Ctx} {p_a : T_api_Type} {p_b : T_api_Type} {K K2 : Bool → Heap → Prop} {H : Heap} (h : c_ref06_SameType C p_a p_b K H) (hk : ∀ r0 H2, K r0 H2 → K2 r0 H2) : c_ref06_SameType C p_a p_b K2 H :=
  Spec.mono h fun _ H2 ⟨r0, hv, h2⟩ => ⟨r0, hv, hk r0 H2 h2⟩
theorem c_ref06_SameType.gh {C : Ctx} {p_a : T_api_Type} {p_b : T_api_Type} {K : Bool → Heap → Prop} {H : Heap} (h : c_ref06_SameType C p_a p_b (fun r0 H2 => ∃ H0, Gh C H2 H0 ∧ K r0 H0) H) : c_ref06_SameType C p_a p_b K H :=
  Spec.gh (Spec.mono h fun _ H2 ⟨r0, hv, H0, hg, hk⟩ => ⟨H0, hg, r0, hv, hk⟩)
def c_ref02_SameRow (C : Ctx) (p_a : Sl) (p_b : Sl) (K : Bool → Heap → Prop) (H : Heap) : Prop :=
  Spec Tryz.prog C 172 [slv p_a, slv p_b] H (fun v H2 => ∃ (r0 : Bool), v = .bool r0 ∧ K r0 H2)
theorem c_ref02_SameRow.mono {C : Ctx} {p_a : Sl} {p_b : Sl} {K K2 : Bool → Heap → Prop} {H : Heap} (h : c_ref02_SameRow C p_a p_b K H) (hk : ∀ r0 H2, K r0 H2 → K2 r0 H2) : c_ref02_SameRow C p_a p_b K2 H :=
  Spec.mono h fun _ H2 ⟨r0, hv, h2⟩ => ⟨r0, hv, hk r0 H2 h2⟩
theorem c_ref02_SameRow.gh {C : Ctx} {p_a : Sl} {p_b : Sl} {K : Bool → Heap → Prop} {H : Heap} (h : c_ref02_SameRow C p_a p_b (fun r0 H2 => ∃ H0, Gh C H2 H0 ∧ K r0 H0) H) : c_ref02_SameRow C p_a p_b K H :=
  Spec.gh (Spec.mono h fun _ H2 ⟨r0, hv, H0, hg, hk⟩ => ⟨H0, hg, r0, hv, hk⟩)
def c_slices_EqualFunc_api_Type_api_Type_api_Type_api_Type (C : Ctx) (p_s1 : Sl) (p_s2 : Sl) (p_eq : Value) (K : Bool → Heap → Prop) (H : Heap) : Prop :=
  Spec Tryz.prog C 204 [slv p_s1, slv p_s2, p_eq] H (fun v H2 => ∃ (r0 : Bool), v = .bool r0 ∧ K r0 H2)
theorem c_slices_EqualFunc_api_Type_api_Type_api_Type_api_Type.mono {C : Ctx} {p_s1 : Sl} {p_s2 : Sl} {p_eq : Value} {K K2 : Bool → Heap → Prop} {H : Heap} (h : c_slices_EqualFunc_api_Type_api_Type_api_Type_api_Type C p_s1 p_s2 p_eq K H) (hk : ∀ r0 H2, K r0 H2 → K2 r0 H2) : c_slices_EqualFunc_api_Type_api_Type_api_Type_api_Type C p_s1 p_s2 p_eq K2 H :=
  Spec.mono h fun _ H2 ⟨r0, hv, h2⟩ => ⟨r0, hv, hk r0 H2 h2⟩
theorem c_slices_EqualFunc_api_Type_api_Type_api_Type_api_Type.gh {C : Ctx} {p_s1 : Sl} {p_s2 : Sl} {p_eq : Value} {K : Bool → Heap → Prop} {H : Heap} (h : c_slices_EqualFunc_api_Type_api_Type_api_Type_api_Type C p_s1 p_s2 p_eq (fun r0 H2 => ∃ H0, Gh C H2 H0 ∧ K r0 H0) H) : c_slices_EqualFunc_api_Type_api_Type_api_Type_api_Type C p_s1 p_s2 p_eq K H :=
  Spec.gh (Spec.mono h fun _ H2 ⟨r0, hv, H0, hg, hk⟩ => ⟨H0, hg, r0, hv, hk⟩)
def c_slices_EqualFunc_api_Value_api_Value_api_Value_api_Value (C : Ctx) (p_s1 : Sl) (p_s2 : Sl) (p_eq : Value) (K : Bool → Heap → Prop) (H : Heap) : Prop :=
  Spec Tryz.prog C 205 [slv p_s1, slv p_s2, p_eq] H (fun v H2 => ∃ (r0 : Bool), v = .bool r0 ∧ K r0 H2)
theorem c_slices_EqualFunc_api_Value_api_Value_api_Value_api_Value.mono {C : Ctx} {p_s1 : Sl} {p_s2 : Sl} {p_eq : Value} {K K2 : Bool → Heap → Prop} {H : Heap} (h : c_slices_EqualFunc_api_Value_api_Value_api_Value_api_Value C p_s1 p_s2 p_eq K H) (hk : ∀ r0 H2, K r0 H2 → K2 r0 H2) : c_slices_EqualFunc_api_Value_api_Value_api_Value_api_Value C p_s1 p_s2 p_eq K2 H :=
  Spec.mono h fun _ H2 ⟨r0, hv, h2⟩ => ⟨r0, hv, hk r0 H2 h2⟩
theorem c_slices_EqualFunc_api_Value_api_Value_api_Value_api_Value.gh {C : Ctx} {p_s1 : Sl} {p_s2 : Sl} {p_eq : Value} {K : Bool → Heap → Prop} {H : Heap} (h : c_slices_EqualFunc_api_Value_api_Value_api_Value_api_Value C p_s1 p_s2 p_eq (fun r0 H2 => ∃ H0, Gh C H2 H0 ∧ K r0 H0) H) : c_slices_EqualFunc_api_Value_api_Value_api_Value_api_Value C p_s1 p_s2 p_eq K H :=
  Spec.gh (Spec.mono h fun _ H2 ⟨r0, hv, H0, hg, hk⟩ => ⟨H0, hg, r0, hv, hk⟩)



def sh_law06_TreeSame (C : Ctx) (p_a : T_api_Module) (p_b : T_api_Module) (K : Bool → Heap → Prop) (H : Heap) : Prop :=
  nw (T_api_Module.c p_a) (fun b1 H2 =>
 nw (T_api_Module.c p_b) (fun b3 H4 =>
 ldT H4 T_api_Module.c (b1, 0) fun x5 =>
 c_law06_large C x5 (fun r7 H8 =>
 jn (α := Bool) (fun b9 H17 =>
 ift b9
 (c_law06_awake C (fun r19 H20 =>
 K r19 H20) H17)
 (dr H17 fun Hs21 =>
 ldT Hs21 T_api_Module.c (b1, 0) fun x23 =>
 ldT Hs21 T_api_Module.c (b3, 0) fun x25 =>
 ldT Hs21 T_api_Module.c (b1, 0) fun x27 =>
 ldT Hs21 T_api_Module.c (b3, 0) fun x29 =>
 c_tree_Same C x23 x25 (fun r32 H33 =>
 Heap.le Hs21 H33 ∧
 c_ref06_Same C x27 x29 (fun r35 H36 =>
 Heap.le Hs21 H36 ∧
 ift (r32 == r35)
 (ldT Hs21 T_api_Module.c (b1, 0) fun x38 =>
 ldT Hs21 T_api_Module.c (b1, 0) fun x40 =>
 c_tree_Same C x38 x40 (fun r43 H44 =>
 Heap.le Hs21 H44 ∧
 ift r43
 (c_law06_awake C (fun r47 H48 =>
 Heap.le Hs21 H48 ∧
 K r47 H48) H44)
 (K false H44)) H36)
 (K false H36)) H33) H17))
 (fun J10 => ift r7
 (J10 true H8)
 (ldT H8 T_api_Module.c (b3, 0) fun x13 =>
 c_law06_large C x13 (fun r15 H16 =>
 J10 r15 H16) H8))) H4) H2) H

theorem ad_law06_TreeSame (C : Ctx) (p_a : T_api_Module) (p_b : T_api_Module) (K : Bool → Heap → Prop) (H : Heap) (h : sh_law06_TreeSame C p_a p_b K H) : c_law06_TreeSame C p_a p_b K H := by
  refine Spec.enter Tryz.func4 rfl Tryz.ntmps4 rfl ?_
  refine GC.sub [(0, .agg (T_api_Module.c p_a).toArray), (1, .agg (T_api_Module.c p_b).toArray)] ⟨rfl, rfl, trivial⟩ ?_
  refine GC.seq ?_
  refine GC.region ?_
  refine GL.box (v := .agg (T_api_Module.c p_a).toArray) (cs := T_api_Module.c p_a) h trivial rfl rfl rfl ?_
  intro b1 H2 h
  refine GL.box (v := .agg (T_api_Module.c p_b).toArray) (cs := T_api_Module.c p_b) h trivial rfl rfl rfl ?_
  intro b3 H4 h
  refine GL.val trivial rfl (OV.assign (v := .bool false) rfl) ?_
  refine GL.nil ?_
  refine GC.seq ?_
  refine GC.seq ?_
  refine GC.region ?_
  obtain ⟨x5, hr6, h⟩ := h
  refine GL.val trivial rfl (OV.loadT (p := (b1, 0)) (cs := T_api_Module.c x5) rfl rfl rfl hr6) ?_
  refine GL.call h trivial rfl ok_law06_large (vs := [.agg (T_api_Module.c x5).toArray]) rfl ?_
  rintro _ H8 ⟨r7, rfl, h⟩
  refine GL.val trivial rfl (OV.move (v := .bool r7) rfl) ?_
  obtain ⟨J10, h, hR11⟩ := h
  refine GL.cut (α := Bool) 3 J10 (fun b9 => [(10, .bool b9), (2, pv (some (b1, 0))), (3, pv (some (b3, 0)))]) ?_ ?_
  · rcases Bool.eq_false_or_eq_true r7 with hc12 | hc12
    · skip
      replace h := And.left h hc12
      refine GL.skip ⟨_, rfl, .inl ⟨_, rfl, hc12⟩⟩ rfl ?_
      refine GL.skip ⟨_, rfl, .inl ⟨_, rfl, hc12⟩⟩ rfl ?_
      refine GL.val trivial rfl (OV.pickT (b := r7) (v := .bool true) rfl hc12 rfl) ?_
      exact GL.jump (fun _ _ h => h) true h ⟨rfl, rfl, rfl, trivial⟩
    · skip
      replace h := And.right h hc12
      obtain ⟨x13, hr14, h⟩ := h
      refine GL.val ⟨_, _, rfl, rfl, hc12⟩ rfl (OV.loadT (p := (b3, 0)) (cs := T_api_Module.c x13) rfl rfl rfl hr14) ?_
      refine GL.call h ⟨_, _, rfl, rfl, hc12⟩ rfl ok_law06_large (vs := [.agg (T_api_Module.c x13).toArray]) rfl ?_
      rintro _ H16 ⟨r15, rfl, h⟩
      refine GL.val trivial rfl (OV.pickF (b := r7) (v := .bool r15) rfl hc12 rfl) ?_
      exact GL.jump (fun _ _ h => h) r15 h ⟨rfl, rfl, rfl, trivial⟩
  intro b9 H17 h
  replace h := hR11 b9 H17 h
  refine GL.nil ?_
  refine GC.cond (b := b9) rfl (fun hc18 => ?_) (fun hc18 => ?_)
  · replace h := And.left h hc18
    refine GC.seq ?_
    refine GC.region ?_
    refine GL.call h trivial rfl ok_law06_awake (vs := []) rfl ?_
    rintro _ H20 ⟨r19, rfl, h⟩
    refine GL.val trivial rfl (OV.assign (v := .bool r19) rfl) ?_
    refine GL.nil ?_
    exact GC.ret (fun _ _ hf hs => post_tmp1 rfl rfl hf hs ⟨r19, rfl, h⟩)
  · replace h := And.right h hc18
    refine GC.skip ?_
    refine GC.seq ?_
    obtain ⟨Hs21, hle22, h⟩ := h
    refine GC.any (Hs := Hs21) (by kernel_rfl) hle22 ?_
    obtain ⟨x23, hr24, h⟩ := h
    refine GA.take 0 rfl (by kernel_rfl) (by kernel_rfl) (by kernel_rfl) (fun _ _ _ h => False.elim h) trivial rfl (OV.loadT (p := (b1, 0)) (cs := T_api_Module.c x23) rfl rfl rfl hr24) ?_
    obtain ⟨x25, hr26, h⟩ := h
    refine GA.take 1 rfl (by kernel_rfl) (by kernel_rfl) (by kernel_rfl) (fun _ _ _ h => False.elim h) trivial rfl (OV.loadT (p := (b3, 0)) (cs := T_api_Module.c x25) rfl rfl rfl hr26) ?_
    obtain ⟨x27, hr28, h⟩ := h
    refine GA.take 3 rfl (by kernel_rfl) (by kernel_rfl) (by kernel_rfl) (fun _ _ _ h => False.elim h) trivial rfl (OV.loadT (p := (b1, 0)) (cs := T_api_Module.c x27) rfl rfl rfl hr28) ?_
    obtain ⟨x29, hr30, h⟩ := h
    refine GA.take 4 rfl (by kernel_rfl) (by kernel_rfl) (by kernel_rfl) (fun _ _ _ h => False.elim h) trivial rfl (OV.loadT (p := (b3, 0)) (cs := T_api_Module.c x29) rfl rfl rfl hr30) ?_
    refine GA.eff 2 rfl (by kernel_rfl) ?_
    refine GL.call h trivial rfl ok_tree_Same (vs := [.agg (T_api_Module.c x23).toArray, .agg (T_api_Module.c x25).toArray]) rfl ?_
    rintro _ H33 ⟨r32, rfl, h⟩
    obtain ⟨hle31, h⟩ := h
    refine GA.back hle31 ?_
    refine GA.eff 5 rfl (by kernel_rfl) ?_
    refine GL.call h trivial rfl ok_ref06_Same (vs := [.agg (T_api_Module.c x27).toArray, .agg (T_api_Module.c x29).toArray]) rfl ?_
    rintro _ H36 ⟨r35, rfl, h⟩
    obtain ⟨hle34, h⟩ := h
    refine GA.back hle34 ?_
    refine GA.take 6 rfl (by kernel_rfl) (by kernel_rfl) (by kernel_rfl) (fun _ _ _ h => False.elim h) trivial rfl (OV.eqlBool rfl rfl rfl) ?_
    refine GA.take 7 rfl (by kernel_rfl) (by kernel_rfl) (by kernel_rfl) (fun _ _ _ h => False.elim h) trivial rfl (OV.move (v := .bool (r32 == r35)) rfl) ?_
    rcases Bool.eq_false_or_eq_true (r32 == r35) with hc37 | hc37
    · replace h := And.left h hc37
      obtain ⟨x38, hr39, h⟩ := h
      refine GA.take 8 rfl (by kernel_rfl) (by kernel_rfl) (by kernel_rfl) (fun _ _ _ h => False.elim h) ⟨_, _, rfl, rfl, hc37⟩ rfl (OV.loadT (p := (b1, 0)) (cs := T_api_Module.c x38) rfl rfl rfl hr39) ?_
      obtain ⟨x40, hr41, h⟩ := h
      refine GA.take 9 rfl (by kernel_rfl) (by kernel_rfl) (by kernel_rfl) (fun _ _ _ h => False.elim h) ⟨_, _, rfl, rfl, hc37⟩ rfl (OV.loadT (p := (b1, 0)) (cs := T_api_Module.c x40) rfl rfl rfl hr41) ?_
      refine GA.eff 10 rfl (by kernel_rfl) ?_
      refine GL.call h ⟨_, _, rfl, rfl, hc37⟩ rfl ok_tree_Same (vs := [.agg (T_api_Module.c x38).toArray, .agg (T_api_Module.c x40).toArray]) rfl ?_
      rintro _ H44 ⟨r43, rfl, h⟩
      obtain ⟨hle42, h⟩ := h
      refine GA.back hle42 ?_
      refine GA.take 11 rfl (by kernel_rfl) (by kernel_rfl) (by kernel_rfl) (fun _ _ _ h => False.elim h) trivial rfl (OV.pickT (b := r32 == r35) (v := .bool r43) rfl hc37 rfl) ?_
      refine GA.take 12 rfl (by kernel_rfl) (by kernel_rfl) (by kernel_rfl) (fun _ _ _ h => False.elim h) trivial rfl (OV.move (v := .bool r43) rfl) ?_
      rcases Bool.eq_false_or_eq_true r43 with hc45 | hc45
      · replace h := And.left h hc45
        refine GA.eff 13 rfl (by kernel_rfl) ?_
        refine GL.call h ⟨_, _, rfl, rfl, hc45⟩ rfl ok_law06_awake (vs := []) rfl ?_
        rintro _ H48 ⟨r47, rfl, h⟩
        obtain ⟨hle46, h⟩ := h
        refine GA.back hle46 ?_
        refine GA.take 14 rfl (by kernel_rfl) (by kernel_rfl) (by kernel_rfl) (fun _ _ _ h => False.elim h) trivial rfl (OV.pickT (b := r43) (v := .bool r47) rfl hc45 rfl) ?_
        refine GA.take 15 rfl (by kernel_rfl) (by kernel_rfl) (by kernel_rfl) (fun _ _ _ h => False.elim h) trivial rfl (OV.assign (v := .bool r47) rfl) ?_
        refine GA.done (by kernel_rfl) ?_
        refine GL.nil ?_
        exact GC.ret (fun _ _ hf hs => post_tmp1 rfl rfl hf hs ⟨r47, rfl, h⟩)
      · replace h := And.right h hc45
        refine GA.skip 13 rfl (by kernel_rfl) (by kernel_rfl) (by kernel_rfl) (fun _ _ _ h => False.elim h) ⟨_, rfl, .inl ⟨_, rfl, hc45⟩⟩ rfl ?_
        refine GA.take 14 rfl (by kernel_rfl) (by kernel_rfl) (by kernel_rfl) (fun _ _ _ h => False.elim h) trivial rfl (OV.pickF (b := r43) (v := .bool false) rfl hc45 rfl) ?_
        refine GA.take 15 rfl (by kernel_rfl) (by kernel_rfl) (by kernel_rfl) (fun _ _ _ h => False.elim h) trivial rfl (OV.assign (v := .bool false) rfl) ?_
        refine GA.done (by kernel_rfl) ?_
        refine GL.nil ?_
        exact GC.ret (fun _ _ hf hs => post_tmp1 rfl rfl hf hs ⟨false, rfl, h⟩)
    · replace h := And.right h hc37
      refine GA.skip 8 rfl (by kernel_rfl) (by kernel_rfl) (by kernel_rfl) (fun _ _ _ h => False.elim h) ⟨_, rfl, .inl ⟨_, rfl, hc37⟩⟩ rfl ?_
      refine GA.skip 9 rfl (by kernel_rfl) (by kernel_rfl) (by kernel_rfl) (fun _ _ _ h => False.elim h) ⟨_, rfl, .inl ⟨_, rfl, hc37⟩⟩ rfl ?_
      refine GA.skip 10 rfl (by kernel_rfl) (by kernel_rfl) (by kernel_rfl) (fun _ _ _ h => False.elim h) ⟨_, rfl, .inl ⟨_, rfl, hc37⟩⟩ rfl ?_
      refine GA.take 11 rfl (by kernel_rfl) (by kernel_rfl) (by kernel_rfl) (fun _ _ _ h => False.elim h) trivial rfl (OV.pickF (b := r32 == r35) (v := .bool false) rfl hc37 rfl) ?_
      refine GA.take 12 rfl (by kernel_rfl) (by kernel_rfl) (by kernel_rfl) (fun _ _ _ h => False.elim h) trivial rfl (OV.move (v := .bool false) rfl) ?_
      refine GA.skip 13 rfl (by kernel_rfl) (by kernel_rfl) (by kernel_rfl) (fun _ _ _ h => False.elim h) ⟨_, rfl, .inl ⟨_, rfl, rfl⟩⟩ rfl ?_
      refine GA.take 14 rfl (by kernel_rfl) (by kernel_rfl) (by kernel_rfl) (fun _ _ _ h => False.elim h) trivial rfl (OV.pickF (b := false) (v := .bool false) rfl rfl rfl) ?_
      refine GA.take 15 rfl (by kernel_rfl) (by kernel_rfl) (by kernel_rfl) (fun _ _ _ h => False.elim h) trivial rfl (OV.assign (v := .bool false) rfl) ?_
      refine GA.done (by kernel_rfl) ?_
      refine GL.nil ?_
      exact GC.ret (fun _ _ hf hs => post_tmp1 rfl rfl hf hs ⟨false, rfl, h⟩)

def sh_law06_large (C : Ctx) (p_m : T_api_Module) (K : Bool → Heap → Prop) (H : Heap) : Prop :=
  nw (T_api_Module.c p_m) (fun b1 H2 =>
 ldL H2 ((b1, 0).1, (b1, 0).2 + 1) fun x3 =>
 ldS H2 ((b1, 0).1, (b1, 0).2 + 0) fun x5 =>
 lp (α := Int × Int) ((w .i64 ((Sl.len x3 : Int) + (w .i64 (Int.tdiv (List.length x5 : Int) 50)))), 0) H2 (fun x7 J8 H9 =>
 ldL H9 ((b1, 0).1, (b1, 0).2 + 2) fun x10 =>
 ift ((decide ((x7.2 : Int) < (Sl.len x10 : Int))) && (decide ((x7.1 : Int) < 2000)))
 (ldL H9 ((b1, 0).1, (b1, 0).2 + 2) fun x14 =>
 ixa x14 x7.2 fun p16 =>
 ldL H9 ((p16.1, p16.2 + (x7.2 : Int).toNat * 6).1, (p16.1, p16.2 + (x7.2 : Int).toNat * 6).2 + 4) fun x21 =>
 lp (α := Int × Int) ((w .i64 ((w .i64 (x7.1 + 1)) + (Sl.len x21 : Int))), 0) H9 (fun x23 J24 H25 =>
 ldL H25 ((b1, 0).1, (b1, 0).2 + 2) fun x26 =>
 ixa x26 x7.2 fun p28 =>
 ldL H25 ((p28.1, p28.2 + (x7.2 : Int).toNat * 6).1, (p28.1, p28.2 + (x7.2 : Int).toNat * 6).2 + 5) fun x33 =>
 ift ((decide ((x23.2 : Int) < (Sl.len x33 : Int))) && (decide ((x23.1 : Int) < 2000)))
 (ldL H25 ((b1, 0).1, (b1, 0).2 + 2) fun x37 =>
 ixa x37 x7.2 fun p39 =>
 ldL H25 ((p39.1, p39.2 + (x7.2 : Int).toNat * 6).1, (p39.1, p39.2 + (x7.2 : Int).toNat * 6).2 + 5) fun x44 =>
 ixa x44 x23.2 fun p46 =>
 ldL H25 ((p46.1, p46.2 + (x23.2 : Int).toNat * 2).1, (p46.1, p46.2 + (x23.2 : Int).toNat * 2).2 + 1) fun x51 =>
 c_law06_fields C x51 (w .i64 (2000 - x23.1)) (fun r53 H54 =>
 J24 ((w .i64 ((w .i64 (x23.1 + 1)) + r53)), (w .i64 (x23.2 + 1))) H54) H25)
 (J8 (x23.1, (w .i64 (x7.2 + 1))) H25)))
 (lp (α := Int × Int) (x7.1, 0) H9 (fun x55 J56 H57 =>
 ldL H57 ((b1, 0).1, (b1, 0).2 + 3) fun x58 =>
 ift ((decide ((x55.2 : Int) < (Sl.len x58 : Int))) && (decide ((x55.1 : Int) < 2000)))
 (ldL H57 ((b1, 0).1, (b1, 0).2 + 3) fun x62 =>
 ixa x62 x55.2 fun p64 =>
 ldL H57 ((p64.1, p64.2 + (x55.2 : Int).toNat * 6).1, (p64.1, p64.2 + (x55.2 : Int).toNat * 6).2 + 5) fun x69 =>
 c_law06_fields C x69 (w .i64 (2000 - x55.1)) (fun r71 H72 =>
 J56 ((w .i64 ((w .i64 (x55.1 + 1)) + r71)), (w .i64 (x55.2 + 1))) H72) H57)
 (lp (α := Int × Int) (x55.1, 0) H57 (fun x73 J74 H75 =>
 ldL H75 ((b1, 0).1, (b1, 0).2 + 4) fun x76 =>
 ift ((decide ((x73.2 : Int) < (Sl.len x76 : Int))) && (decide ((x73.1 : Int) < 2000)))
 (dr H75 fun Hs80 =>
 ldL Hs80 ((b1, 0).1, (b1, 0).2 + 4) fun x82 =>
 ixa x82 x73.2 fun p84 =>
 ldL Hs80 ((p84.1, p84.2 + (x73.2 : Int).toNat * 6).1, (p84.1, p84.2 + (x73.2 : Int).toNat * 6).2 + 4) fun x89 =>
 ldL Hs80 ((b1, 0).1, (b1, 0).2 + 4) fun x91 =>
 ixa x91 x73.2 fun p93 =>
 ldL Hs80 ((p93.1, p93.2 + (x73.2 : Int).toNat * 6).1, (p93.1, p93.2 + (x73.2 : Int).toNat * 6).2 + 3) fun x98 =>
 ldL Hs80 ((b1, 0).1, (b1, 0).2 + 4) fun x100 =>
 ixa x100 x73.2 fun p102 =>
 ldL Hs80 ((p102.1, p102.2 + (x73.2 : Int).toNat * 6).1, (p102.1, p102.2 + (x73.2 : Int).toNat * 6).2 + 5) fun x107 =>
 c_law06_exprs C x98 (w .i64 (2000 - x73.1)) (fun r110 H111 =>
 Heap.le Hs80 H111 ∧
 c_law06_body C x107 (w .i64 (2000 - x73.1)) (fun r113 H114 =>
 Heap.le Hs80 H114 ∧
 J74 ((w .i64 ((w .i64 ((w .i64 ((w .i64 (x73.1 + 1)) + (Sl.len x89 : Int))) + r110)) + r113)), (w .i64 (x73.2 + 1))) H114) H111) H75)
 (lp (α := Int × Int) (x73.1, 0) H75 (fun x115 J116 H117 =>
 ldL H117 ((b1, 0).1, (b1, 0).2 + 5) fun x118 =>
 ift ((decide ((x115.2 : Int) < (Sl.len x118 : Int))) && (decide ((x115.1 : Int) < 2000)))
 (ldL H117 ((b1, 0).1, (b1, 0).2 + 5) fun x122 =>
 ixa x122 x115.2 fun p124 =>
 ldL H117 ((p124.1, p124.2 + (x115.2 : Int).toNat * 4).1, (p124.1, p124.2 + (x115.2 : Int).toNat * 4).2 + 3) fun x129 =>
 c_law06_body C x129 (w .i64 (2000 - x115.1)) (fun r131 H132 =>
 J116 ((w .i64 ((w .i64 (x115.1 + 1)) + r131)), (w .i64 (x115.2 + 1))) H132) H117)
 (K (decide ((x115.1 : Int) ≥ 2000)) H117))))))))) H

theorem ad_law06_large (C : Ctx) (p_m : T_api_Module) (K : Bool → Heap → Prop) (H : Heap) (h : sh_law06_large C p_m K H) : c_law06_large C p_m K H := by
  refine Spec.enter Tryz.func8 rfl Tryz.ntmps8 rfl ?_
  refine GC.sub [(0, .agg (T_api_Module.c p_m).toArray)] ⟨rfl, trivial⟩ ?_
  refine GC.seq ?_
  refine GC.region ?_
  refine GL.box (v := .agg (T_api_Module.c p_m).toArray) (cs := T_api_Module.c p_m) h trivial rfl rfl rfl ?_
  intro b1 H2 h
  refine GL.val trivial rfl (OV.assign (v := .bool false) rfl) ?_
  refine GL.nil ?_
  refine GC.seq ?_
  refine GC.region ?_
  refine GL.val trivial rfl (OV.fieldAddr (p := (b1, 0)) rfl rfl) ?_
  obtain ⟨x3, hr4, h⟩ := h
  refine GL.val trivial rfl (OV.load (p := ((b1, 0).1, (b1, 0).2 + 1)) rfl rfl hr4) ?_
  refine GL.val trivial rfl (OV.lenSl (s := x3) rfl rfl) ?_
  refine GL.val trivial rfl (OV.fieldAddr (p := (b1, 0)) rfl rfl) ?_
  obtain ⟨x5, hr6, h⟩ := h
  refine GL.val trivial rfl (OV.load (p := ((b1, 0).1, (b1, 0).2 + 0)) rfl rfl hr6) ?_
  refine GL.val trivial rfl (OV.lenStr (s := x5) rfl rfl) ?_
  refine GL.val trivial rfl (OV.quo rfl rfl (by decide)) ?_
  refine GL.val trivial rfl (OV.ibin (v := .int .i64 (w .i64 ((Sl.len x3 : Int) + (w .i64 (Int.tdiv (List.length x5 : Int) 50))))) rfl rfl rfl) ?_
  refine GL.val trivial rfl (OV.assign (v := .int .i64 (w .i64 ((Sl.len x3 : Int) + (w .i64 (Int.tdiv (List.length x5 : Int) 50))))) rfl) ?_
  refine GL.nil ?_
  refine GC.seq ?_
  refine GC.seq ?_
  refine GC.region ?_
  refine GL.val trivial rfl (OV.assign (v := .int .i64 0) rfl) ?_
  refine GL.nil ?_
  refine GC.block ?_
  refine GC.loop (α := Int × Int) h (fun x7 => [(3, .int .i64 x7.1), (4, .int .i64 x7.2), (1, pv (some (b1, 0)))]) ⟨rfl, rfl, rfl, trivial⟩ ?_
  intro x7 H9 J8 h
  refine GC.seq ?_
  refine GC.seq ?_
  refine GC.region ?_
  refine GL.val trivial rfl (OV.move (v := .int .i64 x7.2) rfl) ?_
  refine GL.val trivial rfl (OV.fieldAddr (p := (b1, 0)) rfl rfl) ?_
  obtain ⟨x10, hr11, h⟩ := h
  refine GL.val trivial rfl (OV.load (p := ((b1, 0).1, (b1, 0).2 + 2)) rfl rfl hr11) ?_
  refine GL.val trivial rfl (OV.lenSl (s := x10) rfl rfl) ?_
  refine GL.val trivial rfl (OV.ibin (v := .bool (decide ((x7.2 : Int) < (Sl.len x10 : Int)))) rfl rfl rfl) ?_
  refine GL.val trivial rfl (OV.move (v := .bool (decide ((x7.2 : Int) < (Sl.len x10 : Int)))) rfl) ?_
  refine GL.cut0 3 [(25, .bool ((decide ((x7.2 : Int) < (Sl.len x10 : Int))) && (decide ((x7.1 : Int) < 2000)))), (1, pv (some (b1, 0))), (3, .int .i64 x7.1), (4, .int .i64 x7.2)] ?_ ?_
  · rcases Bool.eq_false_or_eq_true (decide ((x7.2 : Int) < (Sl.len x10 : Int))) with hc12 | hc12
    · skip
      refine GL.val ⟨_, _, rfl, rfl, hc12⟩ rfl (OV.move (v := .int .i64 x7.1) rfl) ?_
      refine GL.val ⟨_, _, rfl, rfl, hc12⟩ rfl (OV.ibin (v := .bool (decide ((x7.1 : Int) < 2000))) rfl rfl rfl) ?_
      refine GL.val trivial rfl (OV.pickT (b := decide ((x7.2 : Int) < (Sl.len x10 : Int))) (v := .bool (decide ((x7.1 : Int) < 2000))) rfl hc12 rfl) ?_
      exact GL.jump0 (fun _ _ h => h) () rfl ⟨(by rw [hc12]; rfl), rfl, rfl, rfl, trivial⟩
    · skip
      refine GL.skip ⟨_, rfl, .inl ⟨_, rfl, hc12⟩⟩ rfl ?_
      refine GL.skip ⟨_, rfl, .inl ⟨_, rfl, hc12⟩⟩ rfl ?_
      refine GL.val trivial rfl (OV.pickF (b := decide ((x7.2 : Int) < (Sl.len x10 : Int))) (v := .bool false) rfl hc12 rfl) ?_
      exact GL.jump0 (fun _ _ h => h) () rfl ⟨(by rw [hc12]; rfl), rfl, rfl, rfl, trivial⟩
  refine GL.nil ?_
  refine GC.cond (b := (decide ((x7.2 : Int) < (Sl.len x10 : Int))) && (decide ((x7.1 : Int) < 2000))) rfl (fun hc13 => ?_) (fun hc13 => ?_)
  · replace h := And.left h hc13
    refine GC.skip ?_
    refine GC.seq ?_
    refine GC.block ?_
    refine GC.seq ?_
    refine GC.region ?_
    refine GL.val trivial rfl (OV.move (v := .int .i64 x7.1) rfl) ?_
    refine GL.val trivial rfl (OV.ibin (v := .int .i64 (w .i64 (x7.1 + 1))) rfl rfl rfl) ?_
    refine GL.val trivial rfl (OV.fieldAddr (p := (b1, 0)) rfl rfl) ?_
    obtain ⟨x14, hr15, h⟩ := h
    refine GL.val trivial rfl (OV.load (p := ((b1, 0).1, (b1, 0).2 + 2)) rfl rfl hr15) ?_
    refine GL.val trivial rfl (OV.move (v := .int .i64 x7.2) rfl) ?_
    obtain ⟨p16, ha17, hb18, hc19, hd20, h⟩ := h
    refine GL.val trivial rfl (OV.indexAddr (s := x14) rfl rfl rfl rfl ha17 hb18 hc19 hd20) ?_
    refine GL.val trivial rfl (OV.fieldAddr (p := (p16.1, p16.2 + (x7.2 : Int).toNat * 6)) rfl rfl) ?_
    obtain ⟨x21, hr22, h⟩ := h
    refine GL.val trivial rfl (OV.load (p := ((p16.1, p16.2 + (x7.2 : Int).toNat * 6).1, (p16.1, p16.2 + (x7.2 : Int).toNat * 6).2 + 4)) rfl rfl hr22) ?_
    refine GL.val trivial rfl (OV.lenSl (s := x21) rfl rfl) ?_
    refine GL.val trivial rfl (OV.ibin (v := .int .i64 (w .i64 ((w .i64 (x7.1 + 1)) + (Sl.len x21 : Int)))) rfl rfl rfl) ?_
    refine GL.val trivial rfl (OV.assign (v := .int .i64 (w .i64 ((w .i64 (x7.1 + 1)) + (Sl.len x21 : Int)))) rfl) ?_
    refine GL.nil ?_
    refine GC.seq ?_
    refine GC.region ?_
    refine GL.val trivial rfl (OV.assign (v := .int .i64 0) rfl) ?_
    refine GL.nil ?_
    refine GC.block ?_
    refine GC.loop (α := Int × Int) h (fun x23 => [(3, .int .i64 x23.1), (5, .int .i64 x23.2), (1, pv (some (b1, 0))), (4, .int .i64 x7.2)]) ⟨rfl, rfl, rfl, rfl, trivial⟩ ?_
    intro x23 H25 J24 h
    refine GC.seq ?_
    refine GC.seq ?_
    refine GC.region ?_
    refine GL.val trivial rfl (OV.move (v := .int .i64 x23.2) rfl) ?_
    refine GL.val trivial rfl (OV.fieldAddr (p := (b1, 0)) rfl rfl) ?_
    obtain ⟨x26, hr27, h⟩ := h
    refine GL.val trivial rfl (OV.load (p := ((b1, 0).1, (b1, 0).2 + 2)) rfl rfl hr27) ?_
    refine GL.val trivial rfl (OV.move (v := .int .i64 x7.2) rfl) ?_
    obtain ⟨p28, ha29, hb30, hc31, hd32, h⟩ := h
    refine GL.val trivial rfl (OV.indexAddr (s := x26) rfl rfl rfl rfl ha29 hb30 hc31 hd32) ?_
    refine GL.val trivial rfl (OV.fieldAddr (p := (p28.1, p28.2 + (x7.2 : Int).toNat * 6)) rfl rfl) ?_
    obtain ⟨x33, hr34, h⟩ := h
    refine GL.val trivial rfl (OV.load (p := ((p28.1, p28.2 + (x7.2 : Int).toNat * 6).1, (p28.1, p28.2 + (x7.2 : Int).toNat * 6).2 + 5)) rfl rfl hr34) ?_
    refine GL.val trivial rfl (OV.lenSl (s := x33) rfl rfl) ?_
    refine GL.val trivial rfl (OV.ibin (v := .bool (decide ((x23.2 : Int) < (Sl.len x33 : Int)))) rfl rfl rfl) ?_
    refine GL.val trivial rfl (OV.move (v := .bool (decide ((x23.2 : Int) < (Sl.len x33 : Int)))) rfl) ?_
    refine GL.cut0 3 [(50, .bool ((decide ((x23.2 : Int) < (Sl.len x33 : Int))) && (decide ((x23.1 : Int) < 2000)))), (1, pv (some (b1, 0))), (3, .int .i64 x23.1), (4, .int .i64 x7.2), (5, .int .i64 x23.2)] ?_ ?_
    · rcases Bool.eq_false_or_eq_true (decide ((x23.2 : Int) < (Sl.len x33 : Int))) with hc35 | hc35
      · skip
        refine GL.val ⟨_, _, rfl, rfl, hc35⟩ rfl (OV.move (v := .int .i64 x23.1) rfl) ?_
        refine GL.val ⟨_, _, rfl, rfl, hc35⟩ rfl (OV.ibin (v := .bool (decide ((x23.1 : Int) < 2000))) rfl rfl rfl) ?_
        refine GL.val trivial rfl (OV.pickT (b := decide ((x23.2 : Int) < (Sl.len x33 : Int))) (v := .bool (decide ((x23.1 : Int) < 2000))) rfl hc35 rfl) ?_
        exact GL.jump0 (fun _ _ h => h) () rfl ⟨(by rw [hc35]; rfl), rfl, rfl, rfl, rfl, trivial⟩
      · skip
        refine GL.skip ⟨_, rfl, .inl ⟨_, rfl, hc35⟩⟩ rfl ?_
        refine GL.skip ⟨_, rfl, .inl ⟨_, rfl, hc35⟩⟩ rfl ?_
        refine GL.val trivial rfl (OV.pickF (b := decide ((x23.2 : Int) < (Sl.len x33 : Int))) (v := .bool false) rfl hc35 rfl) ?_
        exact GL.jump0 (fun _ _ h => h) () rfl ⟨(by rw [hc35]; rfl), rfl, rfl, rfl, rfl, trivial⟩
    refine GL.nil ?_
    refine GC.cond (b := (decide ((x23.2 : Int) < (Sl.len x33 : Int))) && (decide ((x23.1 : Int) < 2000))) rfl (fun hc36 => ?_) (fun hc36 => ?_)
    · replace h := And.left h hc36
      refine GC.skip ?_
      refine GC.seq ?_
      refine GC.block ?_
      refine GC.region ?_
      refine GL.val trivial rfl (OV.move (v := .int .i64 x23.1) rfl) ?_
      refine GL.val trivial rfl (OV.ibin (v := .int .i64 (w .i64 (x23.1 + 1))) rfl rfl rfl) ?_
      refine GL.val trivial rfl (OV.fieldAddr (p := (b1, 0)) rfl rfl) ?_
      obtain ⟨x37, hr38, h⟩ := h
      refine GL.val trivial rfl (OV.load (p := ((b1, 0).1, (b1, 0).2 + 2)) rfl rfl hr38) ?_
      refine GL.val trivial rfl (OV.move (v := .int .i64 x7.2) rfl) ?_
      obtain ⟨p39, ha40, hb41, hc42, hd43, h⟩ := h
      refine GL.val trivial rfl (OV.indexAddr (s := x37) rfl rfl rfl rfl ha40 hb41 hc42 hd43) ?_
      refine GL.val trivial rfl (OV.fieldAddr (p := (p39.1, p39.2 + (x7.2 : Int).toNat * 6)) rfl rfl) ?_
      obtain ⟨x44, hr45, h⟩ := h
      refine GL.val trivial rfl (OV.load (p := ((p39.1, p39.2 + (x7.2 : Int).toNat * 6).1, (p39.1, p39.2 + (x7.2 : Int).toNat * 6).2 + 5)) rfl rfl hr45) ?_
      refine GL.val trivial rfl (OV.move (v := .int .i64 x23.2) rfl) ?_
      obtain ⟨p46, ha47, hb48, hc49, hd50, h⟩ := h
      refine GL.val trivial rfl (OV.indexAddr (s := x44) rfl rfl rfl rfl ha47 hb48 hc49 hd50) ?_
      refine GL.val trivial rfl (OV.fieldAddr (p := (p46.1, p46.2 + (x23.2 : Int).toNat * 2)) rfl rfl) ?_
      obtain ⟨x51, hr52, h⟩ := h
      refine GL.val trivial rfl (OV.load (p := ((p46.1, p46.2 + (x23.2 : Int).toNat * 2).1, (p46.1, p46.2 + (x23.2 : Int).toNat * 2).2 + 1)) rfl rfl hr52) ?_
      refine GL.val trivial rfl (OV.move (v := .int .i64 x23.1) rfl) ?_
      refine GL.val trivial rfl (OV.ibin (v := .int .i64 (w .i64 (2000 - x23.1))) rfl rfl rfl) ?_
      refine GL.call h trivial rfl ok_law06_fields (vs := [slv x51, .int .i64 (w .i64 (2000 - x23.1))]) rfl ?_
      rintro _ H54 ⟨r53, rfl, h⟩
      refine GL.val trivial rfl (OV.ibin (v := .int .i64 (w .i64 ((w .i64 (x23.1 + 1)) + r53))) rfl rfl rfl) ?_
      refine GL.val trivial rfl (OV.assign (v := .int .i64 (w .i64 ((w .i64 (x23.1 + 1)) + r53))) rfl) ?_
      refine GL.nil_to (fun _ _ h => h) ?_
      refine GC.region ?_
      refine GL.val trivial rfl (OV.move (v := .int .i64 x23.2) rfl) ?_
      refine GL.val trivial rfl (OV.ibin (v := .int .i64 (w .i64 (x23.2 + 1))) rfl rfl rfl) ?_
      refine GL.val trivial rfl (OV.assign (v := .int .i64 (w .i64 (x23.2 + 1))) rfl) ?_
      exact GL.jump (fun _ _ h => h) ((w .i64 ((w .i64 (x23.1 + 1)) + r53)), (w .i64 (x23.2 + 1))) h ⟨rfl, rfl, rfl, rfl, trivial⟩
    · replace h := And.right h hc36
      refine GC.exit_to (fun _ _ h => h) ?_
      refine GC.region ?_
      refine GL.val trivial rfl (OV.move (v := .int .i64 x7.2) rfl) ?_
      refine GL.val trivial rfl (OV.ibin (v := .int .i64 (w .i64 (x7.2 + 1))) rfl rfl rfl) ?_
      refine GL.val trivial rfl (OV.assign (v := .int .i64 (w .i64 (x7.2 + 1))) rfl) ?_
      exact GL.jump (fun _ _ h => h) (x23.1, (w .i64 (x7.2 + 1))) h ⟨rfl, rfl, rfl, trivial⟩
  · replace h := And.right h hc13
    refine GC.exit_to (fun _ _ h => h) ?_
    refine GC.seq ?_
    refine GC.seq ?_
    refine GC.region ?_
    refine GL.val trivial rfl (OV.assign (v := .int .i64 0) rfl) ?_
    refine GL.nil ?_
    refine GC.block ?_
    refine GC.loop (α := Int × Int) h (fun x55 => [(3, .int .i64 x55.1), (6, .int .i64 x55.2), (1, pv (some (b1, 0)))]) ⟨rfl, rfl, rfl, trivial⟩ ?_
    intro x55 H57 J56 h
    refine GC.seq ?_
    refine GC.seq ?_
    refine GC.region ?_
    refine GL.val trivial rfl (OV.move (v := .int .i64 x55.2) rfl) ?_
    refine GL.val trivial rfl (OV.fieldAddr (p := (b1, 0)) rfl rfl) ?_
    obtain ⟨x58, hr59, h⟩ := h
    refine GL.val trivial rfl (OV.load (p := ((b1, 0).1, (b1, 0).2 + 3)) rfl rfl hr59) ?_
    refine GL.val trivial rfl (OV.lenSl (s := x58) rfl rfl) ?_
    refine GL.val trivial rfl (OV.ibin (v := .bool (decide ((x55.2 : Int) < (Sl.len x58 : Int)))) rfl rfl rfl) ?_
    refine GL.val trivial rfl (OV.move (v := .bool (decide ((x55.2 : Int) < (Sl.len x58 : Int)))) rfl) ?_
    refine GL.cut0 3 [(77, .bool ((decide ((x55.2 : Int) < (Sl.len x58 : Int))) && (decide ((x55.1 : Int) < 2000)))), (1, pv (some (b1, 0))), (3, .int .i64 x55.1), (6, .int .i64 x55.2)] ?_ ?_
    · rcases Bool.eq_false_or_eq_true (decide ((x55.2 : Int) < (Sl.len x58 : Int))) with hc60 | hc60
      · skip
        refine GL.val ⟨_, _, rfl, rfl, hc60⟩ rfl (OV.move (v := .int .i64 x55.1) rfl) ?_
        refine GL.val ⟨_, _, rfl, rfl, hc60⟩ rfl (OV.ibin (v := .bool (decide ((x55.1 : Int) < 2000))) rfl rfl rfl) ?_
        refine GL.val trivial rfl (OV.pickT (b := decide ((x55.2 : Int) < (Sl.len x58 : Int))) (v := .bool (decide ((x55.1 : Int) < 2000))) rfl hc60 rfl) ?_
        exact GL.jump0 (fun _ _ h => h) () rfl ⟨(by rw [hc60]; rfl), rfl, rfl, rfl, trivial⟩
      · skip
        refine GL.skip ⟨_, rfl, .inl ⟨_, rfl, hc60⟩⟩ rfl ?_
        refine GL.skip ⟨_, rfl, .inl ⟨_, rfl, hc60⟩⟩ rfl ?_
        refine GL.val trivial rfl (OV.pickF (b := decide ((x55.2 : Int) < (Sl.len x58 : Int))) (v := .bool false) rfl hc60 rfl) ?_
        exact GL.jump0 (fun _ _ h => h) () rfl ⟨(by rw [hc60]; rfl), rfl, rfl, rfl, trivial⟩
    refine GL.nil ?_
    refine GC.cond (b := (decide ((x55.2 : Int) < (Sl.len x58 : Int))) && (decide ((x55.1 : Int) < 2000))) rfl (fun hc61 => ?_) (fun hc61 => ?_)
    · replace h := And.left h hc61
      refine GC.skip ?_
      refine GC.seq ?_
      refine GC.block ?_
      refine GC.region ?_
      refine GL.val trivial rfl (OV.move (v := .int .i64 x55.1) rfl) ?_
      refine GL.val trivial rfl (OV.ibin (v := .int .i64 (w .i64 (x55.1 + 1))) rfl rfl rfl) ?_
      refine GL.val trivial rfl (OV.fieldAddr (p := (b1, 0)) rfl rfl) ?_
      obtain ⟨x62, hr63, h⟩ := h
      refine GL.val trivial rfl (OV.load (p := ((b1, 0).1, (b1, 0).2 + 3)) rfl rfl hr63) ?_
      refine GL.val trivial rfl (OV.move (v := .int .i64 x55.2) rfl) ?_
      obtain ⟨p64, ha65, hb66, hc67, hd68, h⟩ := h
      refine GL.val trivial rfl (OV.indexAddr (s := x62) rfl rfl rfl rfl ha65 hb66 hc67 hd68) ?_
      refine GL.val trivial rfl (OV.fieldAddr (p := (p64.1, p64.2 + (x55.2 : Int).toNat * 6)) rfl rfl) ?_
      obtain ⟨x69, hr70, h⟩ := h
      refine GL.val trivial rfl (OV.load (p := ((p64.1, p64.2 + (x55.2 : Int).toNat * 6).1, (p64.1, p64.2 + (x55.2 : Int).toNat * 6).2 + 5)) rfl rfl hr70) ?_
      refine GL.val trivial rfl (OV.move (v := .int .i64 x55.1) rfl) ?_
      refine GL.val trivial rfl (OV.ibin (v := .int .i64 (w .i64 (2000 - x55.1))) rfl rfl rfl) ?_
      refine GL.call h trivial rfl ok_law06_fields (vs := [slv x69, .int .i64 (w .i64 (2000 - x55.1))]) rfl ?_
      rintro _ H72 ⟨r71, rfl, h⟩
      refine GL.val trivial rfl (OV.ibin (v := .int .i64 (w .i64 ((w .i64 (x55.1 + 1)) + r71))) rfl rfl rfl) ?_
      refine GL.val trivial rfl (OV.assign (v := .int .i64 (w .i64 ((w .i64 (x55.1 + 1)) + r71))) rfl) ?_
      refine GL.nil_to (fun _ _ h => h) ?_
      refine GC.region ?_
      refine GL.val trivial rfl (OV.move (v := .int .i64 x55.2) rfl) ?_
      refine GL.val trivial rfl (OV.ibin (v := .int .i64 (w .i64 (x55.2 + 1))) rfl rfl rfl) ?_
      refine GL.val trivial rfl (OV.assign (v := .int .i64 (w .i64 (x55.2 + 1))) rfl) ?_
      exact GL.jump (fun _ _ h => h) ((w .i64 ((w .i64 (x55.1 + 1)) + r71)), (w .i64 (x55.2 + 1))) h ⟨rfl, rfl, rfl, trivial⟩
    · replace h := And.right h hc61
      refine GC.exit_to (fun _ _ h => h) ?_
      refine GC.seq ?_
      refine GC.seq ?_
      refine GC.region ?_
      refine GL.val trivial rfl (OV.assign (v := .int .i64 0) rfl) ?_
      refine GL.nil ?_
      refine GC.block ?_
      refine GC.loop (α := Int × Int) h (fun x73 => [(3, .int .i64 x73.1), (7, .int .i64 x73.2), (1, pv (some (b1, 0)))]) ⟨rfl, rfl, rfl, trivial⟩ ?_
      intro x73 H75 J74 h
      refine GC.seq ?_
      refine GC.seq ?_
      refine GC.region ?_
      refine GL.val trivial rfl (OV.move (v := .int .i64 x73.2) rfl) ?_
      refine GL.val trivial rfl (OV.fieldAddr (p := (b1, 0)) rfl rfl) ?_
      obtain ⟨x76, hr77, h⟩ := h
      refine GL.val trivial rfl (OV.load (p := ((b1, 0).1, (b1, 0).2 + 4)) rfl rfl hr77) ?_
      refine GL.val trivial rfl (OV.lenSl (s := x76) rfl rfl) ?_
      refine GL.val trivial rfl (OV.ibin (v := .bool (decide ((x73.2 : Int) < (Sl.len x76 : Int)))) rfl rfl rfl) ?_
      refine GL.val trivial rfl (OV.move (v := .bool (decide ((x73.2 : Int) < (Sl.len x76 : Int)))) rfl) ?_
      refine GL.cut0 3 [(100, .bool ((decide ((x73.2 : Int) < (Sl.len x76 : Int))) && (decide ((x73.1 : Int) < 2000)))), (1, pv (some (b1, 0))), (3, .int .i64 x73.1), (7, .int .i64 x73.2)] ?_ ?_
      · rcases Bool.eq_false_or_eq_true (decide ((x73.2 : Int) < (Sl.len x76 : Int))) with hc78 | hc78
        · skip
          refine GL.val ⟨_, _, rfl, rfl, hc78⟩ rfl (OV.move (v := .int .i64 x73.1) rfl) ?_
          refine GL.val ⟨_, _, rfl, rfl, hc78⟩ rfl (OV.ibin (v := .bool (decide ((x73.1 : Int) < 2000))) rfl rfl rfl) ?_
          refine GL.val trivial rfl (OV.pickT (b := decide ((x73.2 : Int) < (Sl.len x76 : Int))) (v := .bool (decide ((x73.1 : Int) < 2000))) rfl hc78 rfl) ?_
          exact GL.jump0 (fun _ _ h => h) () rfl ⟨(by rw [hc78]; rfl), rfl, rfl, rfl, trivial⟩
        · skip
          refine GL.skip ⟨_, rfl, .inl ⟨_, rfl, hc78⟩⟩ rfl ?_
          refine GL.skip ⟨_, rfl, .inl ⟨_, rfl, hc78⟩⟩ rfl ?_
          refine GL.val trivial rfl (OV.pickF (b := decide ((x73.2 : Int) < (Sl.len x76 : Int))) (v := .bool false) rfl hc78 rfl) ?_
          exact GL.jump0 (fun _ _ h => h) () rfl ⟨(by rw [hc78]; rfl), rfl, rfl, rfl, trivial⟩
      refine GL.nil ?_
      refine GC.cond (b := (decide ((x73.2 : Int) < (Sl.len x76 : Int))) && (decide ((x73.1 : Int) < 2000))) rfl (fun hc79 => ?_) (fun hc79 => ?_)
      · replace h := And.left h hc79
        refine GC.skip ?_
        refine GC.seq ?_
        refine GC.block ?_
        obtain ⟨Hs80, hle81, h⟩ := h
        refine GC.any (Hs := Hs80) (by kernel_rfl) hle81 ?_
        refine GA.take 0 rfl (by kernel_rfl) (by kernel_rfl) (by kernel_rfl) (fun _ _ _ h => False.elim h) trivial rfl (OV.move (v := .int .i64 x73.1) rfl) ?_
        refine GA.take 1 rfl (by kernel_rfl) (by kernel_rfl) (by kernel_rfl) (fun _ _ _ h => False.elim h) trivial rfl (OV.ibin (v := .int .i64 (w .i64 (x73.1 + 1))) rfl rfl rfl) ?_
        refine GA.take 2 rfl (by kernel_rfl) (by kernel_rfl) (by kernel_rfl) (fun _ _ _ h => False.elim h) trivial rfl (OV.fieldAddr (p := (b1, 0)) rfl rfl) ?_
        obtain ⟨x82, hr83, h⟩ := h
        refine GA.take 3 rfl (by kernel_rfl) (by kernel_rfl) (by kernel_rfl) (fun _ _ _ h => False.elim h) trivial rfl (OV.load (p := ((b1, 0).1, (b1, 0).2 + 4)) rfl rfl hr83) ?_
        refine GA.take 4 rfl (by kernel_rfl) (by kernel_rfl) (by kernel_rfl) (fun _ _ _ h => False.elim h) trivial rfl (OV.move (v := .int .i64 x73.2) rfl) ?_
        obtain ⟨p84, ha85, hb86, hc87, hd88, h⟩ := h
        refine GA.take 5 rfl (by kernel_rfl) (by kernel_rfl) (by kernel_rfl) (fun _ _ _ h => False.elim h) trivial rfl (OV.indexAddr (s := x82) rfl rfl rfl rfl ha85 hb86 hc87 hd88) ?_
        refine GA.take 6 rfl (by kernel_rfl) (by kernel_rfl) (by kernel_rfl) (fun _ _ _ h => False.elim h) trivial rfl (OV.fieldAddr (p := (p84.1, p84.2 + (x73.2 : Int).toNat * 6)) rfl rfl) ?_
        obtain ⟨x89, hr90, h⟩ := h
        refine GA.take 7 rfl (by kernel_rfl) (by kernel_rfl) (by kernel_rfl) (fun _ _ _ h => False.elim h) trivial rfl (OV.load (p := ((p84.1, p84.2 + (x73.2 : Int).toNat * 6).1, (p84.1, p84.2 + (x73.2 : Int).toNat * 6).2 + 4)) rfl rfl hr90) ?_
        refine GA.take 8 rfl (by kernel_rfl) (by kernel_rfl) (by kernel_rfl) (fun _ _ _ h => False.elim h) trivial rfl (OV.lenSl (s := x89) rfl rfl) ?_
        refine GA.take 9 rfl (by kernel_rfl) (by kernel_rfl) (by kernel_rfl) (fun _ _ _ h => False.elim h) trivial rfl (OV.ibin (v := .int .i64 (w .i64 ((w .i64 (x73.1 + 1)) + (Sl.len x89 : Int)))) rfl rfl rfl) ?_
        refine GA.take 10 rfl (by kernel_rfl) (by kernel_rfl) (by kernel_rfl) (fun _ _ _ h => False.elim h) trivial rfl (OV.fieldAddr (p := (b1, 0)) rfl rfl) ?_
        obtain ⟨x91, hr92, h⟩ := h
        refine GA.take 11 rfl (by kernel_rfl) (by kernel_rfl) (by kernel_rfl) (fun _ _ _ h => False.elim h) trivial rfl (OV.load (p := ((b1, 0).1, (b1, 0).2 + 4)) rfl rfl hr92) ?_
        refine GA.take 12 rfl (by kernel_rfl) (by kernel_rfl) (by kernel_rfl) (fun _ _ _ h => False.elim h) trivial rfl (OV.move (v := .int .i64 x73.2) rfl) ?_
        obtain ⟨p93, ha94, hb95, hc96, hd97, h⟩ := h
        refine GA.take 13 rfl (by kernel_rfl) (by kernel_rfl) (by kernel_rfl) (fun _ _ _ h => False.elim h) trivial rfl (OV.indexAddr (s := x91) rfl rfl rfl rfl ha94 hb95 hc96 hd97) ?_
        refine GA.take 14 rfl (by kernel_rfl) (by kernel_rfl) (by kernel_rfl) (fun _ _ _ h => False.elim h) trivial rfl (OV.fieldAddr (p := (p93.1, p93.2 + (x73.2 : Int).toNat * 6)) rfl rfl) ?_
        obtain ⟨x98, hr99, h⟩ := h
        refine GA.take 15 rfl (by kernel_rfl) (by kernel_rfl) (by kernel_rfl) (fun _ _ _ h => False.elim h) trivial rfl (OV.load (p := ((p93.1, p93.2 + (x73.2 : Int).toNat * 6).1, (p93.1, p93.2 + (x73.2 : Int).toNat * 6).2 + 3)) rfl rfl hr99) ?_
        refine GA.take 16 rfl (by kernel_rfl) (by kernel_rfl) (by kernel_rfl) (fun _ _ _ h => False.elim h) trivial rfl (OV.move (v := .int .i64 x73.1) rfl) ?_
        refine GA.take 17 rfl (by kernel_rfl) (by kernel_rfl) (by kernel_rfl) (fun _ _ _ h => False.elim h) trivial rfl (OV.ibin (v := .int .i64 (w .i64 (2000 - x73.1))) rfl rfl rfl) ?_
        refine GA.take 20 rfl (by kernel_rfl) (by kernel_rfl) (by kernel_rfl) (fun _ _ _ h => False.elim h) trivial rfl (OV.fieldAddr (p := (b1, 0)) rfl rfl) ?_
        obtain ⟨x100, hr101, h⟩ := h
        refine GA.take 21 rfl (by kernel_rfl) (by kernel_rfl) (by kernel_rfl) (fun _ _ _ h => False.elim h) trivial rfl (OV.load (p := ((b1, 0).1, (b1, 0).2 + 4)) rfl rfl hr101) ?_
        refine GA.take 22 rfl (by kernel_rfl) (by kernel_rfl) (by kernel_rfl) (fun _ _ _ h => False.elim h) trivial rfl (OV.move (v := .int .i64 x73.2) rfl) ?_
        obtain ⟨p102, ha103, hb104, hc105, hd106, h⟩ := h
        refine GA.take 23 rfl (by kernel_rfl) (by kernel_rfl) (by kernel_rfl) (fun _ _ _ h => False.elim h) trivial rfl (OV.indexAddr (s := x100) rfl rfl rfl rfl ha103 hb104 hc105 hd106) ?_
        refine GA.take 24 rfl (by kernel_rfl) (by kernel_rfl) (by kernel_rfl) (fun _ _ _ h => False.elim h) trivial rfl (OV.fieldAddr (p := (p102.1, p102.2 + (x73.2 : Int).toNat * 6)) rfl rfl) ?_
        obtain ⟨x107, hr108, h⟩ := h
        refine GA.take 25 rfl (by kernel_rfl) (by kernel_rfl) (by kernel_rfl) (fun _ _ _ h => False.elim h) trivial rfl (OV.load (p := ((p102.1, p102.2 + (x73.2 : Int).toNat * 6).1, (p102.1, p102.2 + (x73.2 : Int).toNat * 6).2 + 5)) rfl rfl hr108) ?_
        refine GA.take 26 rfl (by kernel_rfl) (by kernel_rfl) (by kernel_rfl) (fun _ _ _ h => False.elim h) trivial rfl (OV.move (v := .int .i64 x73.1) rfl) ?_
        refine GA.take 27 rfl (by kernel_rfl) (by kernel_rfl) (by kernel_rfl) (fun _ _ _ h => False.elim h) trivial rfl (OV.ibin (v := .int .i64 (w .i64 (2000 - x73.1))) rfl rfl rfl) ?_
        refine GA.eff 18 rfl (by kernel_rfl) ?_
        refine GL.call h trivial rfl ok_law06_exprs (vs := [slv x98, .int .i64 (w .i64 (2000 - x73.1))]) rfl ?_
        rintro _ H111 ⟨r110, rfl, h⟩
        obtain ⟨hle109, h⟩ := h
        refine GA.back hle109 ?_
        refine GA.take 19 rfl (by kernel_rfl) (by kernel_rfl) (by kernel_rfl) (fun _ _ _ h => False.elim h) trivial rfl (OV.ibin (v := .int .i64 (w .i64 ((w .i64 ((w .i64 (x73.1 + 1)) + (Sl.len x89 : Int))) + r110))) rfl rfl rfl) ?_
        refine GA.eff 28 rfl (by kernel_rfl) ?_
        refine GL.call h trivial rfl ok_law06_body (vs := [slv x107, .int .i64 (w .i64 (2000 - x73.1))]) rfl ?_
        rintro _ H114 ⟨r113, rfl, h⟩
        obtain ⟨hle112, h⟩ := h
        refine GA.back hle112 ?_
        refine GA.take 29 rfl (by kernel_rfl) (by kernel_rfl) (by kernel_rfl) (fun _ _ _ h => False.elim h) trivial rfl (OV.ibin (v := .int .i64 (w .i64 ((w .i64 ((w .i64 ((w .i64 (x73.1 + 1)) + (Sl.len x89 : Int))) + r110)) + r113))) rfl rfl rfl) ?_
        refine GA.take 30 rfl (by kernel_rfl) (by kernel_rfl) (by kernel_rfl) (fun _ _ _ h => False.elim h) trivial rfl (OV.assign (v := .int .i64 (w .i64 ((w .i64 ((w .i64 ((w .i64 (x73.1 + 1)) + (Sl.len x89 : Int))) + r110)) + r113))) rfl) ?_
        refine GA.done (by kernel_rfl) ?_
        refine GL.nil_to (fun _ _ h => h) ?_
        refine GC.region ?_
        refine GL.val trivial rfl (OV.move (v := .int .i64 x73.2) rfl) ?_
        refine GL.val trivial rfl (OV.ibin (v := .int .i64 (w .i64 (x73.2 + 1))) rfl rfl rfl) ?_
        refine GL.val trivial rfl (OV.assign (v := .int .i64 (w .i64 (x73.2 + 1))) rfl) ?_
        exact GL.jump (fun _ _ h => h) ((w .i64 ((w .i64 ((w .i64 ((w .i64 (x73.1 + 1)) + (Sl.len x89 : Int))) + r110)) + r113)), (w .i64 (x73.2 + 1))) h ⟨rfl, rfl, rfl, trivial⟩
      · replace h := And.right h hc79
        refine GC.exit_to (fun _ _ h => h) ?_
        refine GC.seq ?_
        refine GC.seq ?_
        refine GC.region ?_
        refine GL.val trivial rfl (OV.assign (v := .int .i64 0) rfl) ?_
        refine GL.nil ?_
        refine GC.block ?_
        refine GC.loop (α := Int × Int) h (fun x115 => [(3, .int .i64 x115.1), (8, .int .i64 x115.2), (1, pv (some (b1, 0)))]) ⟨rfl, rfl, rfl, trivial⟩ ?_
        intro x115 H117 J116 h
        refine GC.seq ?_
        refine GC.seq ?_
        refine GC.region ?_
        refine GL.val trivial rfl (OV.move (v := .int .i64 x115.2) rfl) ?_
        refine GL.val trivial rfl (OV.fieldAddr (p := (b1, 0)) rfl rfl) ?_
        obtain ⟨x118, hr119, h⟩ := h
        refine GL.val trivial rfl (OV.load (p := ((b1, 0).1, (b1, 0).2 + 5)) rfl rfl hr119) ?_
        refine GL.val trivial rfl (OV.lenSl (s := x118) rfl rfl) ?_
        refine GL.val trivial rfl (OV.ibin (v := .bool (decide ((x115.2 : Int) < (Sl.len x118 : Int)))) rfl rfl rfl) ?_
        refine GL.val trivial rfl (OV.move (v := .bool (decide ((x115.2 : Int) < (Sl.len x118 : Int)))) rfl) ?_
        refine GL.cut0 3 [(141, .bool ((decide ((x115.2 : Int) < (Sl.len x118 : Int))) && (decide ((x115.1 : Int) < 2000)))), (1, pv (some (b1, 0))), (3, .int .i64 x115.1), (8, .int .i64 x115.2)] ?_ ?_
        · rcases Bool.eq_false_or_eq_true (decide ((x115.2 : Int) < (Sl.len x118 : Int))) with hc120 | hc120
          · skip
            refine GL.val ⟨_, _, rfl, rfl, hc120⟩ rfl (OV.move (v := .int .i64 x115.1) rfl) ?_
            refine GL.val ⟨_, _, rfl, rfl, hc120⟩ rfl (OV.ibin (v := .bool (decide ((x115.1 : Int) < 2000))) rfl rfl rfl) ?_
            refine GL.val trivial rfl (OV.pickT (b := decide ((x115.2 : Int) < (Sl.len x118 : Int))) (v := .bool (decide ((x115.1 : Int) < 2000))) rfl hc120 rfl) ?_
            exact GL.jump0 (fun _ _ h => h) () rfl ⟨(by rw [hc120]; rfl), rfl, rfl, rfl, trivial⟩
          · skip
            refine GL.skip ⟨_, rfl, .inl ⟨_, rfl, hc120⟩⟩ rfl ?_
            refine GL.skip ⟨_, rfl, .inl ⟨_, rfl, hc120⟩⟩ rfl ?_
            refine GL.val trivial rfl (OV.pickF (b := decide ((x115.2 : Int) < (Sl.len x118 : Int))) (v := .bool false) rfl hc120 rfl) ?_
            exact GL.jump0 (fun _ _ h => h) () rfl ⟨(by rw [hc120]; rfl), rfl, rfl, rfl, trivial⟩
        refine GL.nil ?_
        refine GC.cond (b := (decide ((x115.2 : Int) < (Sl.len x118 : Int))) && (decide ((x115.1 : Int) < 2000))) rfl (fun hc121 => ?_) (fun hc121 => ?_)
        · replace h := And.left h hc121
          refine GC.skip ?_
          refine GC.seq ?_
          refine GC.block ?_
          refine GC.region ?_
          refine GL.val trivial rfl (OV.move (v := .int .i64 x115.1) rfl) ?_
          refine GL.val trivial rfl (OV.ibin (v := .int .i64 (w .i64 (x115.1 + 1))) rfl rfl rfl) ?_
          refine GL.val trivial rfl (OV.fieldAddr (p := (b1, 0)) rfl rfl) ?_
          obtain ⟨x122, hr123, h⟩ := h
          refine GL.val trivial rfl (OV.load (p := ((b1, 0).1, (b1, 0).2 + 5)) rfl rfl hr123) ?_
          refine GL.val trivial rfl (OV.move (v := .int .i64 x115.2) rfl) ?_
          obtain ⟨p124, ha125, hb126, hc127, hd128, h⟩ := h
          refine GL.val trivial rfl (OV.indexAddr (s := x122) rfl rfl rfl rfl ha125 hb126 hc127 hd128) ?_
          refine GL.val trivial rfl (OV.fieldAddr (p := (p124.1, p124.2 + (x115.2 : Int).toNat * 4)) rfl rfl) ?_
          obtain ⟨x129, hr130, h⟩ := h
          refine GL.val trivial rfl (OV.load (p := ((p124.1, p124.2 + (x115.2 : Int).toNat * 4).1, (p124.1, p124.2 + (x115.2 : Int).toNat * 4).2 + 3)) rfl rfl hr130) ?_
          refine GL.val trivial rfl (OV.move (v := .int .i64 x115.1) rfl) ?_
          refine GL.val trivial rfl (OV.ibin (v := .int .i64 (w .i64 (2000 - x115.1))) rfl rfl rfl) ?_
          refine GL.call h trivial rfl ok_law06_body (vs := [slv x129, .int .i64 (w .i64 (2000 - x115.1))]) rfl ?_
          rintro _ H132 ⟨r131, rfl, h⟩
          refine GL.val trivial rfl (OV.ibin (v := .int .i64 (w .i64 ((w .i64 (x115.1 + 1)) + r131))) rfl rfl rfl) ?_
          refine GL.val trivial rfl (OV.assign (v := .int .i64 (w .i64 ((w .i64 (x115.1 + 1)) + r131))) rfl) ?_
          refine GL.nil_to (fun _ _ h => h) ?_
          refine GC.region ?_
          refine GL.val trivial rfl (OV.move (v := .int .i64 x115.2) rfl) ?_
          refine GL.val trivial rfl (OV.ibin (v := .int .i64 (w .i64 (x115.2 + 1))) rfl rfl rfl) ?_
          refine GL.val trivial rfl (OV.assign (v := .int .i64 (w .i64 (x115.2 + 1))) rfl) ?_
          exact GL.jump (fun _ _ h => h) ((w .i64 ((w .i64 (x115.1 + 1)) + r131)), (w .i64 (x115.2 + 1))) h ⟨rfl, rfl, rfl, trivial⟩
        · replace h := And.right h hc121
          refine GC.exit_to (fun _ _ h => h) ?_
          refine GC.seq ?_
          refine GC.region ?_
          refine GL.val trivial rfl (OV.move (v := .int .i64 x115.1) rfl) ?_
          refine GL.val trivial rfl (OV.ibin (v := .bool (decide ((x115.1 : Int) ≥ 2000))) rfl rfl rfl) ?_
          refine GL.val trivial rfl (OV.assign (v := .bool (decide ((x115.1 : Int) ≥ 2000))) rfl) ?_
          refine GL.nil ?_
          exact GC.ret (fun _ _ hf hs => post_tmp1 rfl rfl hf hs ⟨(decide ((x115.1 : Int) ≥ 2000)), rfl, h⟩)

def sh_tree_Same (C : Ctx) (p_a : T_api_Module) (p_b : T_api_Module) (K : Bool → Heap → Prop) (H : Heap) : Prop :=
  nw (T_api_Module.c p_a) (fun b1 H2 =>
 nw (T_api_Module.c p_b) (fun b3 H4 =>
 ldS H4 ((b1, 0).1, (b1, 0).2 + 0) fun x5 =>
 ldS H4 ((b3, 0).1, (b3, 0).2 + 0) fun x7 =>
 jn (α := Bool) (fun b9 H19 =>
 jn (α := Bool) (fun b20 H30 =>
 jn (α := Bool) (fun b31 H41 =>
 jn (α := Bool) (fun b42 H52 =>
 jn (α := Bool) (fun b53 H63 =>
 K b53 H63)
 (fun J54 => ift b42
 (ldL H52 ((b1, 0).1, (b1, 0).2 + 5) fun x57 =>
 ldL H52 ((b3, 0).1, (b3, 0).2 + 5) fun x59 =>
 c_slices_EqualFunc_api_Never_api_Never_api_Never_api_Never C x57 x59 (.func (.func 86) (List.toArray []) (List.toArray []) : Value) (fun r61 H62 =>
 J54 r61 H62) H52)
 (J54 false H52)))
 (fun J43 => ift b31
 (ldL H41 ((b1, 0).1, (b1, 0).2 + 4) fun x46 =>
 ldL H41 ((b3, 0).1, (b3, 0).2 + 4) fun x48 =>
 c_slices_EqualFunc_api_Rule_api_Rule_api_Rule_api_Rule C x46 x48 (.func (.func 80) (List.toArray []) (List.toArray []) : Value) (fun r50 H51 =>
 J43 r50 H51) H41)
 (J43 false H41)))
 (fun J32 => ift b20
 (ldL H30 ((b1, 0).1, (b1, 0).2 + 3) fun x35 =>
 ldL H30 ((b3, 0).1, (b3, 0).2 + 3) fun x37 =>
 c_slices_EqualFunc_api_RelDef_api_RelDef_api_RelDef_api_RelDef C x35 x37 (.func (.func 78) (List.toArray []) (List.toArray []) : Value) (fun r39 H40 =>
 J32 r39 H40) H30)
 (J32 false H30)))
 (fun J21 => ift b9
 (ldL H19 ((b1, 0).1, (b1, 0).2 + 2) fun x24 =>
 ldL H19 ((b3, 0).1, (b3, 0).2 + 2) fun x26 =>
 c_slices_EqualFunc_api_TypeDef_api_TypeDef_api_TypeDef_api_TypeDef C x24 x26 (.func (.func 71) (List.toArray []) (List.toArray []) : Value) (fun r28 H29 =>
 J21 r28 H29) H19)
 (J21 false H19)))
 (fun J10 => ift (x5 == x7)
 (ldL H4 ((b1, 0).1, (b1, 0).2 + 1) fun x13 =>
 ldL H4 ((b3, 0).1, (b3, 0).2 + 1) fun x15 =>
 c_slices_EqualFunc_api_Import_api_Import_api_Import_api_Import C x13 x15 (.func (.func 69) (List.toArray []) (List.toArray []) : Value) (fun r17 H18 =>
 J10 r17 H18) H4)
 (J10 false H4))) H2) H

theorem ad_tree_Same (C : Ctx) (p_a : T_api_Module) (p_b : T_api_Module) (K : Bool → Heap → Prop) (H : Heap) (h : sh_tree_Same C p_a p_b K H) : c_tree_Same C p_a p_b K H := by
  refine Spec.enter Tryz.func14 rfl Tryz.ntmps14 rfl ?_
  refine GC.sub [(0, .agg (T_api_Module.c p_a).toArray), (1, .agg (T_api_Module.c p_b).toArray)] ⟨rfl, rfl, trivial⟩ ?_
  refine GC.seq ?_
  refine GC.region ?_
  refine GL.box (v := .agg (T_api_Module.c p_a).toArray) (cs := T_api_Module.c p_a) h trivial rfl rfl rfl ?_
  intro b1 H2 h
  refine GL.box (v := .agg (T_api_Module.c p_b).toArray) (cs := T_api_Module.c p_b) h trivial rfl rfl rfl ?_
  intro b3 H4 h
  refine GL.val trivial rfl (OV.assign (v := .bool false) rfl) ?_
  refine GL.nil ?_
  refine GC.seq ?_
  refine GC.region ?_
  refine GL.val trivial rfl (OV.fieldAddr (p := (b1, 0)) rfl rfl) ?_
  obtain ⟨x5, hr6, h⟩ := h
  refine GL.val trivial rfl (OV.load (p := ((b1, 0).1, (b1, 0).2 + 0)) rfl rfl hr6) ?_
  refine GL.val trivial rfl (OV.fieldAddr (p := (b3, 0)) rfl rfl) ?_
  obtain ⟨x7, hr8, h⟩ := h
  refine GL.val trivial rfl (OV.load (p := ((b3, 0).1, (b3, 0).2 + 0)) rfl rfl hr8) ?_
  refine GL.val trivial rfl (OV.sbin (a := x5) (b := x7) (v := .bool (x5 == x7)) rfl rfl rfl) ?_
  refine GL.val trivial rfl (OV.move (v := .bool (x5 == x7)) rfl) ?_
  obtain ⟨J10, h, hR11⟩ := h
  refine GL.cut (α := Bool) 6 J10 (fun b9 => [(16, .bool b9), (2, pv (some (b1, 0))), (3, pv (some (b3, 0)))]) ?_ ?_
  · rcases Bool.eq_false_or_eq_true (x5 == x7) with hc12 | hc12
    · skip
      replace h := And.left h hc12
      refine GL.val ⟨_, _, rfl, rfl, hc12⟩ rfl (OV.fieldAddr (p := (b1, 0)) rfl rfl) ?_
      obtain ⟨x13, hr14, h⟩ := h
      refine GL.val ⟨_, _, rfl, rfl, hc12⟩ rfl (OV.load (p := ((b1, 0).1, (b1, 0).2 + 1)) rfl rfl hr14) ?_
      refine GL.val ⟨_, _, rfl, rfl, hc12⟩ rfl (OV.fieldAddr (p := (b3, 0)) rfl rfl) ?_
      obtain ⟨x15, hr16, h⟩ := h
      refine GL.val ⟨_, _, rfl, rfl, hc12⟩ rfl (OV.load (p := ((b3, 0).1, (b3, 0).2 + 1)) rfl rfl hr16) ?_
      refine GL.call h ⟨_, _, rfl, rfl, hc12⟩ rfl ok_slices_EqualFunc_api_Import_api_Import_api_Import_api_Import (vs := [slv x13, slv x15, .func (.func 69) (List.toArray []) (List.toArray [])]) rfl ?_
      rintro _ H18 ⟨r17, rfl, h⟩
      refine GL.val trivial rfl (OV.pickT (b := x5 == x7) (v := .bool r17) rfl hc12 rfl) ?_
      exact GL.jump (fun _ _ h => h) r17 h ⟨rfl, rfl, rfl, trivial⟩
    · skip
      replace h := And.right h hc12
      refine GL.skip ⟨_, rfl, .inl ⟨_, rfl, hc12⟩⟩ rfl ?_
      refine GL.skip ⟨_, rfl, .inl ⟨_, rfl, hc12⟩⟩ rfl ?_
      refine GL.skip ⟨_, rfl, .inl ⟨_, rfl, hc12⟩⟩ rfl ?_
      refine GL.skip ⟨_, rfl, .inl ⟨_, rfl, hc12⟩⟩ rfl ?_
      refine GL.skip ⟨_, rfl, .inl ⟨_, rfl, hc12⟩⟩ rfl ?_
      refine GL.val trivial rfl (OV.pickF (b := x5 == x7) (v := .bool false) rfl hc12 rfl) ?_
      exact GL.jump (fun _ _ h => h) false h ⟨rfl, rfl, rfl, trivial⟩
  intro b9 H19 h
  replace h := hR11 b9 H19 h
  refine GL.val trivial rfl (OV.move (v := .bool b9) rfl) ?_
  obtain ⟨J21, h, hR22⟩ := h
  refine GL.cut (α := Bool) 6 J21 (fun b20 => [(23, .bool b20), (2, pv (some (b1, 0))), (3, pv (some (b3, 0)))]) ?_ ?_
  · rcases Bool.eq_false_or_eq_true b9 with hc23 | hc23
    · skip
      replace h := And.left h hc23
      refine GL.val ⟨_, _, rfl, rfl, hc23⟩ rfl (OV.fieldAddr (p := (b1, 0)) rfl rfl) ?_
      obtain ⟨x24, hr25, h⟩ := h
      refine GL.val ⟨_, _, rfl, rfl, hc23⟩ rfl (OV.load (p := ((b1, 0).1, (b1, 0).2 + 2)) rfl rfl hr25) ?_
      refine GL.val ⟨_, _, rfl, rfl, hc23⟩ rfl (OV.fieldAddr (p := (b3, 0)) rfl rfl) ?_
      obtain ⟨x26, hr27, h⟩ := h
      refine GL.val ⟨_, _, rfl, rfl, hc23⟩ rfl (OV.load (p := ((b3, 0).1, (b3, 0).2 + 2)) rfl rfl hr27) ?_
      refine GL.call h ⟨_, _, rfl, rfl, hc23⟩ rfl ok_slices_EqualFunc_api_TypeDef_api_TypeDef_api_TypeDef_api_TypeDef (vs := [slv x24, slv x26, .func (.func 71) (List.toArray []) (List.toArray [])]) rfl ?_
      rintro _ H29 ⟨r28, rfl, h⟩
      refine GL.val trivial rfl (OV.pickT (b := b9) (v := .bool r28) rfl hc23 rfl) ?_
      exact GL.jump (fun _ _ h => h) r28 h ⟨rfl, rfl, rfl, trivial⟩
    · skip
      replace h := And.right h hc23
      refine GL.skip ⟨_, rfl, .inl ⟨_, rfl, hc23⟩⟩ rfl ?_
      refine GL.skip ⟨_, rfl, .inl ⟨_, rfl, hc23⟩⟩ rfl ?_
      refine GL.skip ⟨_, rfl, .inl ⟨_, rfl, hc23⟩⟩ rfl ?_
      refine GL.skip ⟨_, rfl, .inl ⟨_, rfl, hc23⟩⟩ rfl ?_
      refine GL.skip ⟨_, rfl, .inl ⟨_, rfl, hc23⟩⟩ rfl ?_
      refine GL.val trivial rfl (OV.pickF (b := b9) (v := .bool false) rfl hc23 rfl) ?_
      exact GL.jump (fun _ _ h => h) false h ⟨rfl, rfl, rfl, trivial⟩
  intro b20 H30 h
  replace h := hR22 b20 H30 h
  refine GL.val trivial rfl (OV.move (v := .bool b20) rfl) ?_
  obtain ⟨J32, h, hR33⟩ := h
  refine GL.cut (α := Bool) 6 J32 (fun b31 => [(30, .bool b31), (2, pv (some (b1, 0))), (3, pv (some (b3, 0)))]) ?_ ?_
  · rcases Bool.eq_false_or_eq_true b20 with hc34 | hc34
    · skip
      replace h := And.left h hc34
      refine GL.val ⟨_, _, rfl, rfl, hc34⟩ rfl (OV.fieldAddr (p := (b1, 0)) rfl rfl) ?_
      obtain ⟨x35, hr36, h⟩ := h
      refine GL.val ⟨_, _, rfl, rfl, hc34⟩ rfl (OV.load (p := ((b1, 0).1, (b1, 0).2 + 3)) rfl rfl hr36) ?_
      refine GL.val ⟨_, _, rfl, rfl, hc34⟩ rfl (OV.fieldAddr (p := (b3, 0)) rfl rfl) ?_
      obtain ⟨x37, hr38, h⟩ := h
      refine GL.val ⟨_, _, rfl, rfl, hc34⟩ rfl (OV.load (p := ((b3, 0).1, (b3, 0).2 + 3)) rfl rfl hr38) ?_
      refine GL.call h ⟨_, _, rfl, rfl, hc34⟩ rfl ok_slices_EqualFunc_api_RelDef_api_RelDef_api_RelDef_api_RelDef (vs := [slv x35, slv x37, .func (.func 78) (List.toArray []) (List.toArray [])]) rfl ?_
      rintro _ H40 ⟨r39, rfl, h⟩
      refine GL.val trivial rfl (OV.pickT (b := b20) (v := .bool r39) rfl hc34 rfl) ?_
      exact GL.jump (fun _ _ h => h) r39 h ⟨rfl, rfl, rfl, trivial⟩
    · skip
      replace h := And.right h hc34
      refine GL.skip ⟨_, rfl, .inl ⟨_, rfl, hc34⟩⟩ rfl ?_
      refine GL.skip ⟨_, rfl, .inl ⟨_, rfl, hc34⟩⟩ rfl ?_
      refine GL.skip ⟨_, rfl, .inl ⟨_, rfl, hc34⟩⟩ rfl ?_
      refine GL.skip ⟨_, rfl, .inl ⟨_, rfl, hc34⟩⟩ rfl ?_
      refine GL.skip ⟨_, rfl, .inl ⟨_, rfl, hc34⟩⟩ rfl ?_
      refine GL.val trivial rfl (OV.pickF (b := b20) (v := .bool false) rfl hc34 rfl) ?_
      exact GL.jump (fun _ _ h => h) false h ⟨rfl, rfl, rfl, trivial⟩
  intro b31 H41 h
  replace h := hR33 b31 H41 h
  refine GL.val trivial rfl (OV.move (v := .bool b31) rfl) ?_
  obtain ⟨J43, h, hR44⟩ := h
  refine GL.cut (α := Bool) 6 J43 (fun b42 => [(37, .bool b42), (2, pv (some (b1, 0))), (3, pv (some (b3, 0)))]) ?_ ?_
  · rcases Bool.eq_false_or_eq_true b31 with hc45 | hc45
    · skip
      replace h := And.left h hc45
      refine GL.val ⟨_, _, rfl, rfl, hc45⟩ rfl (OV.fieldAddr (p := (b1, 0)) rfl rfl) ?_
      obtain ⟨x46, hr47, h⟩ := h
      refine GL.val ⟨_, _, rfl, rfl, hc45⟩ rfl (OV.load (p := ((b1, 0).1, (b1, 0).2 + 4)) rfl rfl hr47) ?_
      refine GL.val ⟨_, _, rfl, rfl, hc45⟩ rfl (OV.fieldAddr (p := (b3, 0)) rfl rfl) ?_
      obtain ⟨x48, hr49, h⟩ := h
      refine GL.val ⟨_, _, rfl, rfl, hc45⟩ rfl (OV.load (p := ((b3, 0).1, (b3, 0).2 + 4)) rfl rfl hr49) ?_
      refine GL.call h ⟨_, _, rfl, rfl, hc45⟩ rfl ok_slices_EqualFunc_api_Rule_api_Rule_api_Rule_api_Rule (vs := [slv x46, slv x48, .func (.func 80) (List.toArray []) (List.toArray [])]) rfl ?_
      rintro _ H51 ⟨r50, rfl, h⟩
      refine GL.val trivial rfl (OV.pickT (b := b31) (v := .bool r50) rfl hc45 rfl) ?_
      exact GL.jump (fun _ _ h => h) r50 h ⟨rfl, rfl, rfl, trivial⟩
    · skip
      replace h := And.right h hc45
      refine GL.skip ⟨_, rfl, .inl ⟨_, rfl, hc45⟩⟩ rfl ?_
      refine GL.skip ⟨_, rfl, .inl ⟨_, rfl, hc45⟩⟩ rfl ?_
      refine GL.skip ⟨_, rfl, .inl ⟨_, rfl, hc45⟩⟩ rfl ?_
      refine GL.skip ⟨_, rfl, .inl ⟨_, rfl, hc45⟩⟩ rfl ?_
      refine GL.skip ⟨_, rfl, .inl ⟨_, rfl, hc45⟩⟩ rfl ?_
      refine GL.val trivial rfl (OV.pickF (b := b31) (v := .bool false) rfl hc45 rfl) ?_
      exact GL.jump (fun _ _ h => h) false h ⟨rfl, rfl, rfl, trivial⟩
  intro b42 H52 h
  replace h := hR44 b42 H52 h
  refine GL.val trivial rfl (OV.move (v := .bool b42) rfl) ?_
  obtain ⟨J54, h, hR55⟩ := h
  refine GL.cut (α := Bool) 6 J54 (fun b53 => [(44, .bool b53)]) ?_ ?_
  · rcases Bool.eq_false_or_eq_true b42 with hc56 | hc56
    · skip
      replace h := And.left h hc56
      refine GL.val ⟨_, _, rfl, rfl, hc56⟩ rfl (OV.fieldAddr (p := (b1, 0)) rfl rfl) ?_
      obtain ⟨x57, hr58, h⟩ := h
      refine GL.val ⟨_, _, rfl, rfl, hc56⟩ rfl (OV.load (p := ((b1, 0).1, (b1, 0).2 + 5)) rfl rfl hr58) ?_
      refine GL.val ⟨_, _, rfl, rfl, hc56⟩ rfl (OV.fieldAddr (p := (b3, 0)) rfl rfl) ?_
      obtain ⟨x59, hr60, h⟩ := h
      refine GL.val ⟨_, _, rfl, rfl, hc56⟩ rfl (OV.load (p := ((b3, 0).1, (b3, 0).2 + 5)) rfl rfl hr60) ?_
      refine GL.call h ⟨_, _, rfl, rfl, hc56⟩ rfl ok_slices_EqualFunc_api_Never_api_Never_api_Never_api_Never (vs := [slv x57, slv x59, .func (.func 86) (List.toArray []) (List.toArray [])]) rfl ?_
      rintro _ H62 ⟨r61, rfl, h⟩
      refine GL.val trivial rfl (OV.pickT (b := b42) (v := .bool r61) rfl hc56 rfl) ?_
      exact GL.jump (fun _ _ h => h) r61 h ⟨rfl, trivial⟩
    · skip
      replace h := And.right h hc56
      refine GL.skip ⟨_, rfl, .inl ⟨_, rfl, hc56⟩⟩ rfl ?_
      refine GL.skip ⟨_, rfl, .inl ⟨_, rfl, hc56⟩⟩ rfl ?_
      refine GL.skip ⟨_, rfl, .inl ⟨_, rfl, hc56⟩⟩ rfl ?_
      refine GL.skip ⟨_, rfl, .inl ⟨_, rfl, hc56⟩⟩ rfl ?_
      refine GL.skip ⟨_, rfl, .inl ⟨_, rfl, hc56⟩⟩ rfl ?_
      refine GL.val trivial rfl (OV.pickF (b := b42) (v := .bool false) rfl hc56 rfl) ?_
      exact GL.jump (fun _ _ h => h) false h ⟨rfl, trivial⟩
  intro b53 H63 h
  replace h := hR55 b53 H63 h
  refine GL.val trivial rfl (OV.assign (v := .bool b53) rfl) ?_
  refine GL.nil ?_
  exact GC.ret (fun _ _ hf hs => post_tmp1 rfl rfl hf hs ⟨b53, rfl, h⟩)

def sh_ref06_Same (C : Ctx) (p_a : T_api_Module) (p_b : T_api_Module) (K : Bool → Heap → Prop) (H : Heap) : Prop :=
  nw (T_api_Module.c p_a) (fun b1 H2 =>
 nw (T_api_Module.c p_b) (fun b3 H4 =>
 ldS H4 ((b1, 0).1, (b1, 0).2 + 0) fun x5 =>
 ldS H4 ((b3, 0).1, (b3, 0).2 + 0) fun x7 =>
 jn (α := Bool) (fun b9 H17 =>
 jn (α := Bool) (fun b18 H26 =>
 jn (α := Bool) (fun b27 H35 =>
 jn (α := Bool) (fun b36 H44 =>
 jn (α := Bool) (fun b45 H53 =>
 ift b45
 (K false H53)
 (lp (α := Int) 0 H53 (fun x55 J56 H57 =>
 ldL H57 ((b1, 0).1, (b1, 0).2 + 1) fun x58 =>
 ift (decide ((x55 : Int) < (Sl.len x58 : Int)))
 (ldL H57 ((b1, 0).1, (b1, 0).2 + 1) fun x61 =>
 ixa x61 x55 fun p63 =>
 ldS H57 ((p63.1, p63.2 + (x55 : Int).toNat * 3).1, (p63.1, p63.2 + (x55 : Int).toNat * 3).2 + 2) fun x68 =>
 ldL H57 ((b3, 0).1, (b3, 0).2 + 1) fun x70 =>
 ixa x70 x55 fun p72 =>
 ldS H57 ((p72.1, p72.2 + (x55 : Int).toNat * 3).1, (p72.1, p72.2 + (x55 : Int).toNat * 3).2 + 2) fun x77 =>
 ift (!(x68 == x77))
 (K false H57)
 (J56 (w .i64 (x55 + 1)) H57))
 (lp (α := Int) 0 H57 (fun x80 J81 H82 =>
 ldL H82 ((b1, 0).1, (b1, 0).2 + 2) fun x83 =>
 ift (decide ((x80 : Int) < (Sl.len x83 : Int)))
 (dr H82 fun Hs86 =>
 ldL Hs86 ((b1, 0).1, (b1, 0).2 + 2) fun x88 =>
 ixa x88 x80 fun p90 =>
 ldT Hs86 T_api_TypeDef.c (p90.1, p90.2 + (x80 : Int).toNat * 6) fun x95 =>
 ldL Hs86 ((b3, 0).1, (b3, 0).2 + 2) fun x97 =>
 ixa x97 x80 fun p99 =>
 ldT Hs86 T_api_TypeDef.c (p99.1, p99.2 + (x80 : Int).toNat * 6) fun x104 =>
 c_ref06_sameTypeDef C x95 x104 (fun r107 H108 =>
 Heap.le Hs86 H108 ∧
 ift (!r107)
 (K false H108)
 (J81 (w .i64 (x80 + 1)) H108)) H82)
 (lp (α := Int) 0 H82 (fun x110 J111 H112 =>
 ldL H112 ((b1, 0).1, (b1, 0).2 + 3) fun x113 =>
 ift (decide ((x110 : Int) < (Sl.len x113 : Int)))
 (jn (α := (Nat × Nat) × (Nat × Nat)) (fun x117 H118 =>
 ldB H118 (x117.1.1, x117.1.2 + 2) fun x158 =>
 ldB H118 (x117.2.1, x117.2.2 + 2) fun x160 =>
 jn (α := Bool) (fun b162 H170 =>
 jn (α := Bool) (fun b171 H179 =>
 jn (α := Bool) (fun b180 H190 =>
 ift b180
 (K false H190)
 (J111 (w .i64 (x110 + 1)) H190))
 (fun J181 => ift b171
 (J181 true H179)
 (ldL H179 (x117.1.1, x117.1.2 + 5) fun x184 =>
 ldL H179 (x117.2.1, x117.2.2 + 5) fun x186 =>
 c_ref06_SameFields C x184 x186 (fun r188 H189 =>
 J181 (!r188) H189) H179)))
 (fun J172 => ift b162
 (J172 true H170)
 (ldS H170 (x117.1.1, x117.1.2 + 4) fun x175 =>
 ldS H170 (x117.2.1, x117.2.2 + 4) fun x177 =>
 J172 (!(x175 == x177)) H170)))
 (fun J163 => ift (!(x158 == x160))
 (J163 true H118)
 (ldB H118 (x117.1.1, x117.1.2 + 3) fun x166 =>
 ldB H118 (x117.2.1, x117.2.2 + 3) fun x168 =>
 J163 (!(x166 == x168)) H118)))
 (fun J116 => dr H112 fun Hs120 =>
 ldL Hs120 ((b1, 0).1, (b1, 0).2 + 3) fun x122 =>
 ixa x122 x110 fun p124 =>
 ldT Hs120 T_api_RelDef.c (p124.1, p124.2 + (x110 : Int).toNat * 6) fun x129 =>
 ldL Hs120 ((b3, 0).1, (b3, 0).2 + 3) fun x131 =>
 ixa x131 x110 fun p133 =>
 ldT Hs120 T_api_RelDef.c (p133.1, p133.2 + (x110 : Int).toNat * 6) fun x138 =>
 (nw (T_api_RelDef.c T_api_RelDef.zero) (fun b141 H142 =>
 Heap.le Hs120 H142 ∧
 nw (T_api_RelDef.c T_api_RelDef.zero) (fun b144 H145 =>
 Heap.le Hs120 H145 ∧
 stT (b141, 0) (T_api_RelDef.c x129) (fun H147 =>
 Heap.le Hs120 H147 ∧
 stT (b144, 0) (T_api_RelDef.c x138) (fun H148 =>
 J116 ((b141, 0), (b144, 0)) H148) H147) H145) H142) H112) ∧
 (nw (T_api_RelDef.c T_api_RelDef.zero) (fun b150 H151 =>
 Heap.le Hs120 H151 ∧
 nw (T_api_RelDef.c T_api_RelDef.zero) (fun b153 H154 =>
 Heap.le Hs120 H154 ∧
 stT (b153, 0) (T_api_RelDef.c x129) (fun H156 =>
 Heap.le Hs120 H156 ∧
 stT (b150, 0) (T_api_RelDef.c x138) (fun H157 =>
 J116 ((b153, 0), (b150, 0)) H157) H156) H154) H151) H112)))
 (lp (α := Int) 0 H112 (fun x192 J193 H194 =>
 ldL H194 ((b1, 0).1, (b1, 0).2 + 4) fun x195 =>
 ift (decide ((x192 : Int) < (Sl.len x195 : Int)))
 (dr H194 fun Hs198 =>
 ldL Hs198 ((b1, 0).1, (b1, 0).2 + 4) fun x200 =>
 ixa x200 x192 fun p202 =>
 ldT Hs198 T_api_Rule.c (p202.1, p202.2 + (x192 : Int).toNat * 6) fun x207 =>
 ldL Hs198 ((b3, 0).1, (b3, 0).2 + 4) fun x209 =>
 ixa x209 x192 fun p211 =>
 ldT Hs198 T_api_Rule.c (p211.1, p211.2 + (x192 : Int).toNat * 6) fun x216 =>
 c_ref06_SameRule C x207 x216 (fun r219 H220 =>
 Heap.le Hs198 H220 ∧
 ift (!r219)
 (K false H220)
 (J193 (w .i64 (x192 + 1)) H220)) H194)
 (lp (α := Int) 0 H194 (fun x222 J223 H224 =>
 ldL H224 ((b1, 0).1, (b1, 0).2 + 5) fun x225 =>
 ift (decide ((x222 : Int) < (Sl.len x225 : Int)))
 (jn (α := Bool) (fun x229 H230 =>
 ift x229
 (K false H230)
 (J223 (w .i64 (x222 + 1)) H230))
 (fun J228 => dr H224 fun Hs232 =>
 ldL Hs232 ((b1, 0).1, (b1, 0).2 + 5) fun x234 =>
 ixa x234 x222 fun p236 =>
 ldS Hs232 ((p236.1, p236.2 + (x222 : Int).toNat * 4).1, (p236.1, p236.2 + (x222 : Int).toNat * 4).2 + 2) fun x241 =>
 ldL Hs232 ((b3, 0).1, (b3, 0).2 + 5) fun x243 =>
 ixa x243 x222 fun p245 =>
 ldS Hs232 ((p245.1, p245.2 + (x222 : Int).toNat * 4).1, (p245.1, p245.2 + (x222 : Int).toNat * 4).2 + 2) fun x250 =>
 ift (!(x241 == x250))
 (J228 true H224)
 (ldL Hs232 ((b1, 0).1, (b1, 0).2 + 5) fun x253 =>
 ixa x253 x222 fun p255 =>
 ldL Hs232 ((p255.1, p255.2 + (x222 : Int).toNat * 4).1, (p255.1, p255.2 + (x222 : Int).toNat * 4).2 + 3) fun x260 =>
 ldL Hs232 ((b3, 0).1, (b3, 0).2 + 5) fun x262 =>
 ixa x262 x222 fun p264 =>
 ldL Hs232 ((p264.1, p264.2 + (x222 : Int).toNat * 4).1, (p264.1, p264.2 + (x222 : Int).toNat * 4).2 + 3) fun x269 =>
 c_ref06_SameBody C x260 x269 (fun r272 H273 =>
 Heap.le Hs232 H273 ∧
 J228 (!r272) H273) H224)))
 (K true H224))))))))))))
 (fun J46 => ift b36
 (J46 true H44)
 (ldL H44 ((b1, 0).1, (b1, 0).2 + 5) fun x49 =>
 ldL H44 ((b3, 0).1, (b3, 0).2 + 5) fun x51 =>
 J46 (((Sl.len x49 : Int) : Int) != (Sl.len x51 : Int)) H44)))
 (fun J37 => ift b27
 (J37 true H35)
 (ldL H35 ((b1, 0).1, (b1, 0).2 + 4) fun x40 =>
 ldL H35 ((b3, 0).1, (b3, 0).2 + 4) fun x42 =>
 J37 (((Sl.len x40 : Int) : Int) != (Sl.len x42 : Int)) H35)))
 (fun J28 => ift b18
 (J28 true H26)
 (ldL H26 ((b1, 0).1, (b1, 0).2 + 3) fun x31 =>
 ldL H26 ((b3, 0).1, (b3, 0).2 + 3) fun x33 =>
 J28 (((Sl.len x31 : Int) : Int) != (Sl.len x33 : Int)) H26)))
 (fun J19 => ift b9
 (J19 true H17)
 (ldL H17 ((b1, 0).1, (b1, 0).2 + 2) fun x22 =>
 ldL H17 ((b3, 0).1, (b3, 0).2 + 2) fun x24 =>
 J19 (((Sl.len x22 : Int) : Int) != (Sl.len x24 : Int)) H17)))
 (fun J10 => ift (!(x5 == x7))
 (J10 true H4)
 (ldL H4 ((b1, 0).1, (b1, 0).2 + 1) fun x13 =>
 ldL H4 ((b3, 0).1, (b3, 0).2 + 1) fun x15 =>
 J10 (((Sl.len x13 : Int) : Int) != (Sl.len x15 : Int)) H4))) H2) H

theorem ad_ref06_Same (C : Ctx) (p_a : T_api_Module) (p_b : T_api_Module) (K : Bool → Heap → Prop) (H : Heap) (h : sh_ref06_Same C p_a p_b K H) : c_ref06_Same C p_a p_b K H := by
  refine Spec.enter Tryz.func15 rfl Tryz.ntmps15 rfl ?_
  refine GC.sub [(0, .agg (T_api_Module.c p_a).toArray), (1, .agg (T_api_Module.c p_b).toArray)] ⟨rfl, rfl, trivial⟩ ?_
  refine GC.seq ?_
  refine GC.region ?_
  refine GL.box (v := .agg (T_api_Module.c p_a).toArray) (cs := T_api_Module.c p_a) h trivial rfl rfl rfl ?_
  intro b1 H2 h
  refine GL.box (v := .agg (T_api_Module.c p_b).toArray) (cs := T_api_Module.c p_b) h trivial rfl rfl rfl ?_
  intro b3 H4 h
  refine GL.val trivial rfl (OV.assign (v := .bool false) rfl) ?_
  refine GL.nil ?_
  refine GC.seq ?_
  refine GC.seq ?_
  refine GC.region ?_
  refine GL.val trivial rfl (OV.fieldAddr (p := (b1, 0)) rfl rfl) ?_
  obtain ⟨x5, hr6, h⟩ := h
  refine GL.val trivial rfl (OV.load (p := ((b1, 0).1, (b1, 0).2 + 0)) rfl rfl hr6) ?_
  refine GL.val trivial rfl (OV.fieldAddr (p := (b3, 0)) rfl rfl) ?_
  obtain ⟨x7, hr8, h⟩ := h
  refine GL.val trivial rfl (OV.load (p := ((b3, 0).1, (b3, 0).2 + 0)) rfl rfl hr8) ?_
  refine GL.val trivial rfl (OV.sbin (a := x5) (b := x7) (v := .bool (!(x5 == x7))) rfl rfl rfl) ?_
  refine GL.val trivial rfl (OV.move (v := .bool (!(x5 == x7))) rfl) ?_
  obtain ⟨J10, h, hR11⟩ := h
  refine GL.cut (α := Bool) 8 J10 (fun b9 => [(25, .bool b9), (2, pv (some (b1, 0))), (3, pv (some (b3, 0)))]) ?_ ?_
  · rcases Bool.eq_false_or_eq_true (!(x5 == x7)) with hc12 | hc12
    · skip
      replace h := And.left h hc12
      refine GL.skip ⟨_, rfl, .inl ⟨_, rfl, hc12⟩⟩ rfl ?_
      refine GL.skip ⟨_, rfl, .inl ⟨_, rfl, hc12⟩⟩ rfl ?_
      refine GL.skip ⟨_, rfl, .inl ⟨_, rfl, hc12⟩⟩ rfl ?_
      refine GL.skip ⟨_, rfl, .inl ⟨_, rfl, hc12⟩⟩ rfl ?_
      refine GL.skip ⟨_, rfl, .inl ⟨_, rfl, hc12⟩⟩ rfl ?_
      refine GL.skip ⟨_, rfl, .inl ⟨_, rfl, hc12⟩⟩ rfl ?_
      refine GL.skip ⟨_, rfl, .inl ⟨_, rfl, hc12⟩⟩ rfl ?_
      refine GL.val trivial rfl (OV.pickT (b := !(x5 == x7)) (v := .bool true) rfl hc12 rfl) ?_
      exact GL.jump (fun _ _ h => h) true h ⟨rfl, rfl, rfl, trivial⟩
    · skip
      replace h := And.right h hc12
      refine GL.val ⟨_, _, rfl, rfl, hc12⟩ rfl (OV.fieldAddr (p := (b1, 0)) rfl rfl) ?_
      obtain ⟨x13, hr14, h⟩ := h
      refine GL.val ⟨_, _, rfl, rfl, hc12⟩ rfl (OV.load (p := ((b1, 0).1, (b1, 0).2 + 1)) rfl rfl hr14) ?_
      refine GL.val ⟨_, _, rfl, rfl, hc12⟩ rfl (OV.lenSl (s := x13) rfl rfl) ?_
      refine GL.val ⟨_, _, rfl, rfl, hc12⟩ rfl (OV.fieldAddr (p := (b3, 0)) rfl rfl) ?_
      obtain ⟨x15, hr16, h⟩ := h
      refine GL.val ⟨_, _, rfl, rfl, hc12⟩ rfl (OV.load (p := ((b3, 0).1, (b3, 0).2 + 1)) rfl rfl hr16) ?_
      refine GL.val ⟨_, _, rfl, rfl, hc12⟩ rfl (OV.lenSl (s := x15) rfl rfl) ?_
      refine GL.val ⟨_, _, rfl, rfl, hc12⟩ rfl (OV.ibin (v := .bool (((Sl.len x13 : Int) : Int) != (Sl.len x15 : Int))) rfl rfl rfl) ?_
      refine GL.val trivial rfl (OV.pickF (b := !(x5 == x7)) (v := .bool (((Sl.len x13 : Int) : Int) != (Sl.len x15 : Int))) rfl hc12 rfl) ?_
      exact GL.jump (fun _ _ h => h) (((Sl.len x13 : Int) : Int) != (Sl.len x15 : Int)) h ⟨rfl, rfl, rfl, trivial⟩
  intro b9 H17 h
  replace h := hR11 b9 H17 h
  refine GL.val trivial rfl (OV.move (v := .bool b9) rfl) ?_
  obtain ⟨J19, h, hR20⟩ := h
  refine GL.cut (α := Bool) 8 J19 (fun b18 => [(34, .bool b18), (2, pv (some (b1, 0))), (3, pv (some (b3, 0)))]) ?_ ?_
  · rcases Bool.eq_false_or_eq_true b9 with hc21 | hc21
    · skip
      replace h := And.left h hc21
      refine GL.skip ⟨_, rfl, .inl ⟨_, rfl, hc21⟩⟩ rfl ?_
      refine GL.skip ⟨_, rfl, .inl ⟨_, rfl, hc21⟩⟩ rfl ?_
      refine GL.skip ⟨_, rfl, .inl ⟨_, rfl, hc21⟩⟩ rfl ?_
      refine GL.skip ⟨_, rfl, .inl ⟨_, rfl, hc21⟩⟩ rfl ?_
      refine GL.skip ⟨_, rfl, .inl ⟨_, rfl, hc21⟩⟩ rfl ?_
      refine GL.skip ⟨_, rfl, .inl ⟨_, rfl, hc21⟩⟩ rfl ?_
      refine GL.skip ⟨_, rfl, .inl ⟨_, rfl, hc21⟩⟩ rfl ?_
      refine GL.val trivial rfl (OV.pickT (b := b9) (v := .bool true) rfl hc21 rfl) ?_
      exact GL.jump (fun _ _ h => h) true h ⟨rfl, rfl, rfl, trivial⟩
    · skip
      replace h := And.right h hc21
      refine GL.val ⟨_, _, rfl, rfl, hc21⟩ rfl (OV.fieldAddr (p := (b1, 0)) rfl rfl) ?_
      obtain ⟨x22, hr23, h⟩ := h
      refine GL.val ⟨_, _, rfl, rfl, hc21⟩ rfl (OV.load (p := ((b1, 0).1, (b1, 0).2 + 2)) rfl rfl hr23) ?_
      refine GL.val ⟨_, _, rfl, rfl, hc21⟩ rfl (OV.lenSl (s := x22) rfl rfl) ?_
      refine GL.val ⟨_, _, rfl, rfl, hc21⟩ rfl (OV.fieldAddr (p := (b3, 0)) rfl rfl) ?_
      obtain ⟨x24, hr25, h⟩ := h
      refine GL.val ⟨_, _, rfl, rfl, hc21⟩ rfl (OV.load (p := ((b3, 0).1, (b3, 0).2 + 2)) rfl rfl hr25) ?_
      refine GL.val ⟨_, _, rfl, rfl, hc21⟩ rfl (OV.lenSl (s := x24) rfl rfl) ?_
      refine GL.val ⟨_, _, rfl, rfl, hc21⟩ rfl (OV.ibin (v := .bool (((Sl.len x22 : Int) : Int) != (Sl.len x24 : Int))) rfl rfl rfl) ?_
      refine GL.val trivial rfl (OV.pickF (b := b9) (v := .bool (((Sl.len x22 : Int) : Int) != (Sl.len x24 : Int))) rfl hc21 rfl) ?_
      exact GL.jump (fun _ _ h => h) (((Sl.len x22 : Int) : Int) != (Sl.len x24 : Int)) h ⟨rfl, rfl, rfl, trivial⟩
  intro b18 H26 h
  replace h := hR20 b18 H26 h
  refine GL.val trivial rfl (OV.move (v := .bool b18) rfl) ?_
  obtain ⟨J28, h, hR29⟩ := h
  refine GL.cut (α := Bool) 8 J28 (fun b27 => [(43, .bool b27), (2, pv (some (b1, 0))), (3, pv (some (b3, 0)))]) ?_ ?_
  · rcases Bool.eq_false_or_eq_true b18 with hc30 | hc30
    · skip
      replace h := And.left h hc30
      refine GL.skip ⟨_, rfl, .inl ⟨_, rfl, hc30⟩⟩ rfl ?_
      refine GL.skip ⟨_, rfl, .inl ⟨_, rfl, hc30⟩⟩ rfl ?_
      refine GL.skip ⟨_, rfl, .inl ⟨_, rfl, hc30⟩⟩ rfl ?_
      refine GL.skip ⟨_, rfl, .inl ⟨_, rfl, hc30⟩⟩ rfl ?_
      refine GL.skip ⟨_, rfl, .inl ⟨_, rfl, hc30⟩⟩ rfl ?_
      refine GL.skip ⟨_, rfl, .inl ⟨_, rfl, hc30⟩⟩ rfl ?_
      refine GL.skip ⟨_, rfl, .inl ⟨_, rfl, hc30⟩⟩ rfl ?_
      refine GL.val trivial rfl (OV.pickT (b := b18) (v := .bool true) rfl hc30 rfl) ?_
      exact GL.jump (fun _ _ h => h) true h ⟨rfl, rfl, rfl, trivial⟩
    · skip
      replace h := And.right h hc30
      refine GL.val ⟨_, _, rfl, rfl, hc30⟩ rfl (OV.fieldAddr (p := (b1, 0)) rfl rfl) ?_
      obtain ⟨x31, hr32, h⟩ := h
      refine GL.val ⟨_, _, rfl, rfl, hc30⟩ rfl (OV.load (p := ((b1, 0).1, (b1, 0).2 + 3)) rfl rfl hr32) ?_
      refine GL.val ⟨_, _, rfl, rfl, hc30⟩ rfl (OV.lenSl (s := x31) rfl rfl) ?_
      refine GL.val ⟨_, _, rfl, rfl, hc30⟩ rfl (OV.fieldAddr (p := (b3, 0)) rfl rfl) ?_
      obtain ⟨x33, hr34, h⟩ := h
      refine GL.val ⟨_, _, rfl, rfl, hc30⟩ rfl (OV.load (p := ((b3, 0).1, (b3, 0).2 + 3)) rfl rfl hr34) ?_
      refine GL.val ⟨_, _, rfl, rfl, hc30⟩ rfl (OV.lenSl (s := x33) rfl rfl) ?_
      refine GL.val ⟨_, _, rfl, rfl, hc30⟩ rfl (OV.ibin (v := .bool (((Sl.len x31 : Int) : Int) != (Sl.len x33 : Int))) rfl rfl rfl) ?_
      refine GL.val trivial rfl (OV.pickF (b := b18) (v := .bool (((Sl.len x31 : Int) : Int) != (Sl.len x33 : Int))) rfl hc30 rfl) ?_
      exact GL.jump (fun _ _ h => h) (((Sl.len x31 : Int) : Int) != (Sl.len x33 : Int)) h ⟨rfl, rfl, rfl, trivial⟩
  intro b27 H35 h
  replace h := hR29 b27 H35 h
  refine GL.val trivial rfl (OV.move (v := .bool b27) rfl) ?_
  obtain ⟨J37, h, hR38⟩ := h
  refine GL.cut (α := Bool) 8 J37 (fun b36 => [(52, .bool b36), (2, pv (some (b1, 0))), (3, pv (some (b3, 0)))]) ?_ ?_
  · rcases Bool.eq_false_or_eq_true b27 with hc39 | hc39
    · skip
      replace h := And.left h hc39
      refine GL.skip ⟨_, rfl, .inl ⟨_, rfl, hc39⟩⟩ rfl ?_
      refine GL.skip ⟨_, rfl, .inl ⟨_, rfl, hc39⟩⟩ rfl ?_
      refine GL.skip ⟨_, rfl, .inl ⟨_, rfl, hc39⟩⟩ rfl ?_
      refine GL.skip ⟨_, rfl, .inl ⟨_, rfl, hc39⟩⟩ rfl ?_
      refine GL.skip ⟨_, rfl, .inl ⟨_, rfl, hc39⟩⟩ rfl ?_
      refine GL.skip ⟨_, rfl, .inl ⟨_, rfl, hc39⟩⟩ rfl ?_
      refine GL.skip ⟨_, rfl, .inl ⟨_, rfl, hc39⟩⟩ rfl ?_
      refine GL.val trivial rfl (OV.pickT (b := b27) (v := .bool true) rfl hc39 rfl) ?_
      exact GL.jump (fun _ _ h => h) true h ⟨rfl, rfl, rfl, trivial⟩
    · skip
      replace h := And.right h hc39
      refine GL.val ⟨_, _, rfl, rfl, hc39⟩ rfl (OV.fieldAddr (p := (b1, 0)) rfl rfl) ?_
      obtain ⟨x40, hr41, h⟩ := h
      refine GL.val ⟨_, _, rfl, rfl, hc39⟩ rfl (OV.load (p := ((b1, 0).1, (b1, 0).2 + 4)) rfl rfl hr41) ?_
      refine GL.val ⟨_, _, rfl, rfl, hc39⟩ rfl (OV.lenSl (s := x40) rfl rfl) ?_
      refine GL.val ⟨_, _, rfl, rfl, hc39⟩ rfl (OV.fieldAddr (p := (b3, 0)) rfl rfl) ?_
      obtain ⟨x42, hr43, h⟩ := h
      refine GL.val ⟨_, _, rfl, rfl, hc39⟩ rfl (OV.load (p := ((b3, 0).1, (b3, 0).2 + 4)) rfl rfl hr43) ?_
      refine GL.val ⟨_, _, rfl, rfl, hc39⟩ rfl (OV.lenSl (s := x42) rfl rfl) ?_
      refine GL.val ⟨_, _, rfl, rfl, hc39⟩ rfl (OV.ibin (v := .bool (((Sl.len x40 : Int) : Int) != (Sl.len x42 : Int))) rfl rfl rfl) ?_
      refine GL.val trivial rfl (OV.pickF (b := b27) (v := .bool (((Sl.len x40 : Int) : Int) != (Sl.len x42 : Int))) rfl hc39 rfl) ?_
      exact GL.jump (fun _ _ h => h) (((Sl.len x40 : Int) : Int) != (Sl.len x42 : Int)) h ⟨rfl, rfl, rfl, trivial⟩
  intro b36 H44 h
  replace h := hR38 b36 H44 h
  refine GL.val trivial rfl (OV.move (v := .bool b36) rfl) ?_
  obtain ⟨J46, h, hR47⟩ := h
  refine GL.cut (α := Bool) 8 J46 (fun b45 => [(61, .bool b45), (2, pv (some (b1, 0))), (3, pv (some (b3, 0)))]) ?_ ?_
  · rcases Bool.eq_false_or_eq_true b36 with hc48 | hc48
    · skip
      replace h := And.left h hc48
      refine GL.skip ⟨_, rfl, .inl ⟨_, rfl, hc48⟩⟩ rfl ?_
      refine GL.skip ⟨_, rfl, .inl ⟨_, rfl, hc48⟩⟩ rfl ?_
      refine GL.skip ⟨_, rfl, .inl ⟨_, rfl, hc48⟩⟩ rfl ?_
      refine GL.skip ⟨_, rfl, .inl ⟨_, rfl, hc48⟩⟩ rfl ?_
      refine GL.skip ⟨_, rfl, .inl ⟨_, rfl, hc48⟩⟩ rfl ?_
      refine GL.skip ⟨_, rfl, .inl ⟨_, rfl, hc48⟩⟩ rfl ?_
      refine GL.skip ⟨_, rfl, .inl ⟨_, rfl, hc48⟩⟩ rfl ?_
      refine GL.val trivial rfl (OV.pickT (b := b36) (v := .bool true) rfl hc48 rfl) ?_
      exact GL.jump (fun _ _ h => h) true h ⟨rfl, rfl, rfl, trivial⟩
    · skip
      replace h := And.right h hc48
      refine GL.val ⟨_, _, rfl, rfl, hc48⟩ rfl (OV.fieldAddr (p := (b1, 0)) rfl rfl) ?_
      obtain ⟨x49, hr50, h⟩ := h
      refine GL.val ⟨_, _, rfl, rfl, hc48⟩ rfl (OV.load (p := ((b1, 0).1, (b1, 0).2 + 5)) rfl rfl hr50) ?_
      refine GL.val ⟨_, _, rfl, rfl, hc48⟩ rfl (OV.lenSl (s := x49) rfl rfl) ?_
      refine GL.val ⟨_, _, rfl, rfl, hc48⟩ rfl (OV.fieldAddr (p := (b3, 0)) rfl rfl) ?_
      obtain ⟨x51, hr52, h⟩ := h
      refine GL.val ⟨_, _, rfl, rfl, hc48⟩ rfl (OV.load (p := ((b3, 0).1, (b3, 0).2 + 5)) rfl rfl hr52) ?_
      refine GL.val ⟨_, _, rfl, rfl, hc48⟩ rfl (OV.lenSl (s := x51) rfl rfl) ?_
      refine GL.val ⟨_, _, rfl, rfl, hc48⟩ rfl (OV.ibin (v := .bool (((Sl.len x49 : Int) : Int) != (Sl.len x51 : Int))) rfl rfl rfl) ?_
      refine GL.val trivial rfl (OV.pickF (b := b36) (v := .bool (((Sl.len x49 : Int) : Int) != (Sl.len x51 : Int))) rfl hc48 rfl) ?_
      exact GL.jump (fun _ _ h => h) (((Sl.len x49 : Int) : Int) != (Sl.len x51 : Int)) h ⟨rfl, rfl, rfl, trivial⟩
  intro b45 H53 h
  replace h := hR47 b45 H53 h
  refine GL.nil ?_
  refine GC.cond (b := b45) rfl (fun hc54 => ?_) (fun hc54 => ?_)
  · replace h := And.left h hc54
    refine GC.seq ?_
    refine GC.region ?_
    refine GL.val trivial rfl (OV.assign (v := .bool false) rfl) ?_
    refine GL.nil ?_
    exact GC.ret (fun _ _ hf hs => post_tmp1 rfl rfl hf hs ⟨false, rfl, h⟩)
  · replace h := And.right h hc54
    refine GC.skip ?_
    refine GC.seq ?_
    refine GC.seq ?_
    refine GC.region ?_
    refine GL.val trivial rfl (OV.assign (v := .int .i64 0) rfl) ?_
    refine GL.nil ?_
    refine GC.block ?_
    refine GC.loop (α := Int) h (fun x55 => [(5, .int .i64 x55), (2, pv (some (b1, 0))), (3, pv (some (b3, 0)))]) ⟨rfl, rfl, rfl, trivial⟩ ?_
    intro x55 H57 J56 h
    refine GC.seq ?_
    refine GC.seq ?_
    refine GC.region ?_
    refine GL.val trivial rfl (OV.move (v := .int .i64 x55) rfl) ?_
    refine GL.val trivial rfl (OV.fieldAddr (p := (b1, 0)) rfl rfl) ?_
    obtain ⟨x58, hr59, h⟩ := h
    refine GL.val trivial rfl (OV.load (p := ((b1, 0).1, (b1, 0).2 + 1)) rfl rfl hr59) ?_
    refine GL.val trivial rfl (OV.lenSl (s := x58) rfl rfl) ?_
    refine GL.val trivial rfl (OV.ibin (v := .bool (decide ((x55 : Int) < (Sl.len x58 : Int)))) rfl rfl rfl) ?_
    refine GL.nil ?_
    refine GC.cond (b := decide ((x55 : Int) < (Sl.len x58 : Int))) rfl (fun hc60 => ?_) (fun hc60 => ?_)
    · replace h := And.left h hc60
      refine GC.skip ?_
      refine GC.seq ?_
      refine GC.block ?_
      refine GC.seq ?_
      refine GC.draw (by kernel_rfl) (by kernel_rfl) ?_
      refine GQ.val trivial rfl (OV.fieldAddr (p := (b1, 0)) rfl rfl) ?_
      obtain ⟨x61, hr62, h⟩ := h
      refine GQ.val trivial rfl (OV.load (p := ((b1, 0).1, (b1, 0).2 + 1)) rfl rfl hr62) ?_
      refine GQ.val trivial rfl (OV.move (v := .int .i64 x55) rfl) ?_
      obtain ⟨p63, ha64, hb65, hc66, hd67, h⟩ := h
      refine GQ.val trivial rfl (OV.indexAddr (s := x61) rfl rfl rfl rfl ha64 hb65 hc66 hd67) ?_
      refine GQ.val trivial rfl (OV.fieldAddr (p := (p63.1, p63.2 + (x55 : Int).toNat * 3)) rfl rfl) ?_
      obtain ⟨x68, hr69, h⟩ := h
      refine GQ.val trivial rfl (OV.load (p := ((p63.1, p63.2 + (x55 : Int).toNat * 3).1, (p63.1, p63.2 + (x55 : Int).toNat * 3).2 + 2)) rfl rfl hr69) ?_
      refine GQ.val trivial rfl (OV.fieldAddr (p := (b3, 0)) rfl rfl) ?_
      obtain ⟨x70, hr71, h⟩ := h
      refine GQ.val trivial rfl (OV.load (p := ((b3, 0).1, (b3, 0).2 + 1)) rfl rfl hr71) ?_
      refine GQ.val trivial rfl (OV.move (v := .int .i64 x55) rfl) ?_
      obtain ⟨p72, ha73, hb74, hc75, hd76, h⟩ := h
      refine GQ.val trivial rfl (OV.indexAddr (s := x70) rfl rfl rfl rfl ha73 hb74 hc75 hd76) ?_
      refine GQ.val trivial rfl (OV.fieldAddr (p := (p72.1, p72.2 + (x55 : Int).toNat * 3)) rfl rfl) ?_
      obtain ⟨x77, hr78, h⟩ := h
      refine GQ.val trivial rfl (OV.load (p := ((p72.1, p72.2 + (x55 : Int).toNat * 3).1, (p72.1, p72.2 + (x55 : Int).toNat * 3).2 + 2)) rfl rfl hr78) ?_
      refine GQ.val trivial rfl (OV.sbin (a := x68) (b := x77) (v := .bool (!(x68 == x77))) rfl rfl rfl) ?_
      refine GQ.nil ?_
      refine GL.nil ?_
      refine GC.cond (b := !(x68 == x77)) rfl (fun hc79 => ?_) (fun hc79 => ?_)
      · replace h := And.left h hc79
        refine GC.seq ?_
        refine GC.region ?_
        refine GL.val trivial rfl (OV.assign (v := .bool false) rfl) ?_
        refine GL.nil ?_
        exact GC.ret (fun _ _ hf hs => post_tmp1 rfl rfl hf hs ⟨false, rfl, h⟩)
      · replace h := And.right h hc79
        refine GC.skip_to (fun _ _ h => h) ?_
        refine GC.region ?_
        refine GL.val trivial rfl (OV.move (v := .int .i64 x55) rfl) ?_
        refine GL.val trivial rfl (OV.ibin (v := .int .i64 (w .i64 (x55 + 1))) rfl rfl rfl) ?_
        refine GL.val trivial rfl (OV.assign (v := .int .i64 (w .i64 (x55 + 1))) rfl) ?_
        exact GL.jump (fun _ _ h => h) (w .i64 (x55 + 1)) h ⟨rfl, rfl, rfl, trivial⟩
    · replace h := And.right h hc60
      refine GC.exit_to (fun _ _ h => h) ?_
      refine GC.seq ?_
      refine GC.seq ?_
      refine GC.region ?_
      refine GL.val trivial rfl (OV.assign (v := .int .i64 0) rfl) ?_
      refine GL.nil ?_
      refine GC.block ?_
      refine GC.loop (α := Int) h (fun x80 => [(6, .int .i64 x80), (2, pv (some (b1, 0))), (3, pv (some (b3, 0)))]) ⟨rfl, rfl, rfl, trivial⟩ ?_
      intro x80 H82 J81 h
      refine GC.seq ?_
      refine GC.seq ?_
      refine GC.region ?_
      refine GL.val trivial rfl (OV.move (v := .int .i64 x80) rfl) ?_
      refine GL.val trivial rfl (OV.fieldAddr (p := (b1, 0)) rfl rfl) ?_
      obtain ⟨x83, hr84, h⟩ := h
      refine GL.val trivial rfl (OV.load (p := ((b1, 0).1, (b1, 0).2 + 2)) rfl rfl hr84) ?_
      refine GL.val trivial rfl (OV.lenSl (s := x83) rfl rfl) ?_
      refine GL.val trivial rfl (OV.ibin (v := .bool (decide ((x80 : Int) < (Sl.len x83 : Int)))) rfl rfl rfl) ?_
      refine GL.nil ?_
      refine GC.cond (b := decide ((x80 : Int) < (Sl.len x83 : Int))) rfl (fun hc85 => ?_) (fun hc85 => ?_)
      · replace h := And.left h hc85
        refine GC.skip ?_
        refine GC.seq ?_
        refine GC.block ?_
        refine GC.seq ?_
        obtain ⟨Hs86, hle87, h⟩ := h
        refine GC.any (Hs := Hs86) (by kernel_rfl) hle87 ?_
        refine GA.take 0 rfl (by kernel_rfl) (by kernel_rfl) (by kernel_rfl) (fun _ _ _ h => False.elim h) trivial rfl (OV.fieldAddr (p := (b1, 0)) rfl rfl) ?_
        obtain ⟨x88, hr89, h⟩ := h
        refine GA.take 1 rfl (by kernel_rfl) (by kernel_rfl) (by kernel_rfl) (fun _ _ _ h => False.elim h) trivial rfl (OV.load (p := ((b1, 0).1, (b1, 0).2 + 2)) rfl rfl hr89) ?_
        refine GA.take 2 rfl (by kernel_rfl) (by kernel_rfl) (by kernel_rfl) (fun _ _ _ h => False.elim h) trivial rfl (OV.move (v := .int .i64 x80) rfl) ?_
        obtain ⟨p90, ha91, hb92, hc93, hd94, h⟩ := h
        refine GA.take 3 rfl (by kernel_rfl) (by kernel_rfl) (by kernel_rfl) (fun _ _ _ h => False.elim h) trivial rfl (OV.indexAddr (s := x88) rfl rfl rfl rfl ha91 hb92 hc93 hd94) ?_
        obtain ⟨x95, hr96, h⟩ := h
        refine GA.take 4 rfl (by kernel_rfl) (by kernel_rfl) (by kernel_rfl) (fun _ _ _ h => False.elim h) trivial rfl (OV.loadT (p := (p90.1, p90.2 + (x80 : Int).toNat * 6)) (cs := T_api_TypeDef.c x95) rfl rfl rfl hr96) ?_
        refine GA.take 5 rfl (by kernel_rfl) (by kernel_rfl) (by kernel_rfl) (fun _ _ _ h => False.elim h) trivial rfl (OV.fieldAddr (p := (b3, 0)) rfl rfl) ?_
        obtain ⟨x97, hr98, h⟩ := h
        refine GA.take 6 rfl (by kernel_rfl) (by kernel_rfl) (by kernel_rfl) (fun _ _ _ h => False.elim h) trivial rfl (OV.load (p := ((b3, 0).1, (b3, 0).2 + 2)) rfl rfl hr98) ?_
        refine GA.take 7 rfl (by kernel_rfl) (by kernel_rfl) (by kernel_rfl) (fun _ _ _ h => False.elim h) trivial rfl (OV.move (v := .int .i64 x80) rfl) ?_
        obtain ⟨p99, ha100, hb101, hc102, hd103, h⟩ := h
        refine GA.take 8 rfl (by kernel_rfl) (by kernel_rfl) (by kernel_rfl) (fun _ _ _ h => False.elim h) trivial rfl (OV.indexAddr (s := x97) rfl rfl rfl rfl ha100 hb101 hc102 hd103) ?_
        obtain ⟨x104, hr105, h⟩ := h
        refine GA.take 9 rfl (by kernel_rfl) (by kernel_rfl) (by kernel_rfl) (fun _ _ _ h => False.elim h) trivial rfl (OV.loadT (p := (p99.1, p99.2 + (x80 : Int).toNat * 6)) (cs := T_api_TypeDef.c x104) rfl rfl rfl hr105) ?_
        refine GA.eff 10 rfl (by kernel_rfl) ?_
        refine GL.call h trivial rfl ok_ref06_sameTypeDef (vs := [.agg (T_api_TypeDef.c x95).toArray, .agg (T_api_TypeDef.c x104).toArray]) rfl ?_
        rintro _ H108 ⟨r107, rfl, h⟩
        obtain ⟨hle106, h⟩ := h
        refine GA.back hle106 ?_
        refine GA.take 11 rfl (by kernel_rfl) (by kernel_rfl) (by kernel_rfl) (fun _ _ _ h => False.elim h) trivial rfl (OV.not rfl) ?_
        refine GA.done (by kernel_rfl) ?_
        refine GL.nil ?_
        refine GC.cond (b := !r107) rfl (fun hc109 => ?_) (fun hc109 => ?_)
        · replace h := And.left h hc109
          refine GC.seq ?_
          refine GC.region ?_
          refine GL.val trivial rfl (OV.assign (v := .bool false) rfl) ?_
          refine GL.nil ?_
          exact GC.ret (fun _ _ hf hs => post_tmp1 rfl rfl hf hs ⟨false, rfl, h⟩)
        · replace h := And.right h hc109
          refine GC.skip_to (fun _ _ h => h) ?_
          refine GC.region ?_
          refine GL.val trivial rfl (OV.move (v := .int .i64 x80) rfl) ?_
          refine GL.val trivial rfl (OV.ibin (v := .int .i64 (w .i64 (x80 + 1))) rfl rfl rfl) ?_
          refine GL.val trivial rfl (OV.assign (v := .int .i64 (w .i64 (x80 + 1))) rfl) ?_
          exact GL.jump (fun _ _ h => h) (w .i64 (x80 + 1)) h ⟨rfl, rfl, rfl, trivial⟩
      · replace h := And.right h hc85
        refine GC.exit_to (fun _ _ h => h) ?_
        refine GC.seq ?_
        refine GC.seq ?_
        refine GC.region ?_
        refine GL.val trivial rfl (OV.assign (v := .int .i64 0) rfl) ?_
        refine GL.nil ?_
        refine GC.block ?_
        refine GC.loop (α := Int) h (fun x110 => [(7, .int .i64 x110), (2, pv (some (b1, 0))), (3, pv (some (b3, 0)))]) ⟨rfl, rfl, rfl, trivial⟩ ?_
        intro x110 H112 J111 h
        refine GC.seq ?_
        refine GC.seq ?_
        refine GC.region ?_
        refine GL.val trivial rfl (OV.move (v := .int .i64 x110) rfl) ?_
        refine GL.val trivial rfl (OV.fieldAddr (p := (b1, 0)) rfl rfl) ?_
        obtain ⟨x113, hr114, h⟩ := h
        refine GL.val trivial rfl (OV.load (p := ((b1, 0).1, (b1, 0).2 + 3)) rfl rfl hr114) ?_
        refine GL.val trivial rfl (OV.lenSl (s := x113) rfl rfl) ?_
        refine GL.val trivial rfl (OV.ibin (v := .bool (decide ((x110 : Int) < (Sl.len x113 : Int)))) rfl rfl rfl) ?_
        refine GL.nil ?_
        refine GC.cond (b := decide ((x110 : Int) < (Sl.len x113 : Int))) rfl (fun hc115 => ?_) (fun hc115 => ?_)
        · replace h := And.left h hc115
          refine GC.skip ?_
          refine GC.seq ?_
          refine GC.block ?_
          refine GC.seq ?_
          obtain ⟨J116, h, hR119⟩ := h
          refine GC.meet (α := (Nat × Nat) × (Nat × Nat)) J116 (fun x117 => [(8, pv (some x117.1)), (9, pv (some x117.2)), (2, pv (some (b1, 0))), (3, pv (some (b3, 0))), (7, .int .i64 x110)]) ?_ ?_
          · skip
            obtain ⟨Hs120, hle121, h⟩ := h
            refine GC.tail (Hs := Hs120) 13 (by kernel_rfl) hle121 (by kernel_rfl) ?_
            refine GT.take 0 rfl (by kernel_rfl) (by kernel_rfl) (by kernel_rfl) rfl (fun _ _ _ h => False.elim h) trivial rfl (OV.fieldAddr (p := (b1, 0)) rfl rfl) ?_
            obtain ⟨x122, hr123, h⟩ := h
            refine GT.take 1 rfl (by kernel_rfl) (by kernel_rfl) (by kernel_rfl) rfl (fun _ _ _ h => False.elim h) trivial rfl (OV.load (p := ((b1, 0).1, (b1, 0).2 + 3)) rfl rfl hr123) ?_
            refine GT.take 2 rfl (by kernel_rfl) (by kernel_rfl) (by kernel_rfl) rfl (fun _ _ _ h => False.elim h) trivial rfl (OV.move (v := .int .i64 x110) rfl) ?_
            obtain ⟨p124, ha125, hb126, hc127, hd128, h⟩ := h
            refine GT.take 3 rfl (by kernel_rfl) (by kernel_rfl) (by kernel_rfl) rfl (fun _ _ _ h => False.elim h) trivial rfl (OV.indexAddr (s := x122) rfl rfl rfl rfl ha125 hb126 hc127 hd128) ?_
            obtain ⟨x129, hr130, h⟩ := h
            refine GT.take 4 rfl (by kernel_rfl) (by kernel_rfl) (by kernel_rfl) rfl (fun _ _ _ h => False.elim h) trivial rfl (OV.loadT (p := (p124.1, p124.2 + (x110 : Int).toNat * 6)) (cs := T_api_RelDef.c x129) rfl rfl rfl hr130) ?_
            refine GT.take 5 rfl (by kernel_rfl) (by kernel_rfl) (by kernel_rfl) rfl (fun _ _ _ h => False.elim h) trivial rfl (OV.fieldAddr (p := (b3, 0)) rfl rfl) ?_
            obtain ⟨x131, hr132, h⟩ := h
            refine GT.take 6 rfl (by kernel_rfl) (by kernel_rfl) (by kernel_rfl) rfl (fun _ _ _ h => False.elim h) trivial rfl (OV.load (p := ((b3, 0).1, (b3, 0).2 + 3)) rfl rfl hr132) ?_
            refine GT.take 7 rfl (by kernel_rfl) (by kernel_rfl) (by kernel_rfl) rfl (fun _ _ _ h => False.elim h) trivial rfl (OV.move (v := .int .i64 x110) rfl) ?_
            obtain ⟨p133, ha134, hb135, hc136, hd137, h⟩ := h
            refine GT.take 8 rfl (by kernel_rfl) (by kernel_rfl) (by kernel_rfl) rfl (fun _ _ _ h => False.elim h) trivial rfl (OV.indexAddr (s := x131) rfl rfl rfl rfl ha134 hb135 hc136 hd137) ?_
            obtain ⟨x138, hr139, h⟩ := h
            refine GT.take 9 rfl (by kernel_rfl) (by kernel_rfl) (by kernel_rfl) rfl (fun _ _ _ h => False.elim h) trivial rfl (OV.loadT (p := (p133.1, p133.2 + (x110 : Int).toNat * 6)) (cs := T_api_RelDef.c x138) rfl rfl rfl hr139) ?_
            refine GT.effs [10, 11] (by kernel_rfl) (by simp) (List.forall_mem_cons.2 ⟨⟨_, rfl, rfl, ?_⟩, List.forall_mem_cons.2 ⟨⟨_, rfl, rfl, ?_⟩, fun _ h => by cases h⟩⟩)
            · replace h := h.1
              refine GL.alloc (cs := T_api_RelDef.c T_api_RelDef.zero) h trivial rfl rfl rfl ?_
              intro b141 H142 h
              obtain ⟨hle140, h⟩ := h
              refine GT.back hle140 ?_
              refine GT.eff 11 rfl (by kernel_rfl) rfl ?_
              refine GL.alloc (cs := T_api_RelDef.c T_api_RelDef.zero) h trivial rfl rfl rfl ?_
              intro b144 H145 h
              obtain ⟨hle143, h⟩ := h
              refine GT.back hle143 ?_
              refine GT.eff 12 rfl (by kernel_rfl) rfl ?_
              refine GL.storeT (p := (b141, 0)) (vs := T_api_RelDef.c x129) h trivial rfl rfl rfl rfl ?_
              intro H147 h
              obtain ⟨hle146, h⟩ := h
              refine GT.back hle146 ?_
              refine GT.done (by kernel_rfl) ?_
              show GL _ _ _ _ _ [_] _ _
              refine GL.storeT (p := (b144, 0)) (vs := T_api_RelDef.c x138) h trivial rfl rfl rfl rfl ?_
              intro H148 h
              exact GL.jump (fun _ _ h => h) ((b141, 0), (b144, 0)) h ⟨rfl, rfl, rfl, rfl, rfl, trivial⟩
            · replace h := h.2
              refine GL.alloc (cs := T_api_RelDef.c T_api_RelDef.zero) h trivial rfl rfl rfl ?_
              intro b150 H151 h
              obtain ⟨hle149, h⟩ := h
              refine GT.back hle149 ?_
              refine GT.eff 10 rfl (by kernel_rfl) rfl ?_
              refine GL.alloc (cs := T_api_RelDef.c T_api_RelDef.zero) h trivial rfl rfl rfl ?_
              intro b153 H154 h
              obtain ⟨hle152, h⟩ := h
              refine GT.back hle152 ?_
              refine GT.eff 12 rfl (by kernel_rfl) rfl ?_
              refine GL.storeT (p := (b153, 0)) (vs := T_api_RelDef.c x129) h trivial rfl rfl rfl rfl ?_
              intro H156 h
              obtain ⟨hle155, h⟩ := h
              refine GT.back hle155 ?_
              refine GT.done (by kernel_rfl) ?_
              show GL _ _ _ _ _ [_] _ _
              refine GL.storeT (p := (b150, 0)) (vs := T_api_RelDef.c x138) h trivial rfl rfl rfl rfl ?_
              intro H157 h
              exact GL.jump (fun _ _ h => h) ((b153, 0), (b150, 0)) h ⟨rfl, rfl, rfl, rfl, rfl, trivial⟩
          · intro x117 H118 h
            replace h := hR119 x117 H118 h
            refine GL.nil ?_
            refine GC.seq ?_
            refine GC.region ?_
            refine GL.val trivial rfl (OV.fieldAddr (p := x117.1) rfl rfl) ?_
            obtain ⟨x158, hr159, h⟩ := h
            refine GL.val trivial rfl (OV.load (p := (x117.1.1, x117.1.2 + 2)) rfl rfl hr159) ?_
            refine GL.val trivial rfl (OV.fieldAddr (p := x117.2) rfl rfl) ?_
            obtain ⟨x160, hr161, h⟩ := h
            refine GL.val trivial rfl (OV.load (p := (x117.2.1, x117.2.2 + 2)) rfl rfl hr161) ?_
            refine GL.val trivial rfl (OV.neqBool rfl rfl rfl) ?_
            refine GL.val trivial rfl (OV.move (v := .bool (!(x158 == x160))) rfl) ?_
            obtain ⟨J163, h, hR164⟩ := h
            refine GL.cut (α := Bool) 6 J163 (fun b162 => [(129, .bool b162), (2, pv (some (b1, 0))), (3, pv (some (b3, 0))), (7, .int .i64 x110), (8, pv (some x117.1)), (9, pv (some x117.2))]) ?_ ?_
            · rcases Bool.eq_false_or_eq_true (!(x158 == x160)) with hc165 | hc165
              · skip
                replace h := And.left h hc165
                refine GL.skip ⟨_, rfl, .inl ⟨_, rfl, hc165⟩⟩ rfl ?_
                refine GL.skip ⟨_, rfl, .inl ⟨_, rfl, hc165⟩⟩ rfl ?_
                refine GL.skip ⟨_, rfl, .inl ⟨_, rfl, hc165⟩⟩ rfl ?_
                refine GL.skip ⟨_, rfl, .inl ⟨_, rfl, hc165⟩⟩ rfl ?_
                refine GL.skip ⟨_, rfl, .inl ⟨_, rfl, hc165⟩⟩ rfl ?_
                refine GL.val trivial rfl (OV.pickT (b := !(x158 == x160)) (v := .bool true) rfl hc165 rfl) ?_
                exact GL.jump (fun _ _ h => h) true h ⟨rfl, rfl, rfl, rfl, rfl, rfl, trivial⟩
              · skip
                replace h := And.right h hc165
                refine GL.val ⟨_, _, rfl, rfl, hc165⟩ rfl (OV.fieldAddr (p := x117.1) rfl rfl) ?_
                obtain ⟨x166, hr167, h⟩ := h
                refine GL.val ⟨_, _, rfl, rfl, hc165⟩ rfl (OV.load (p := (x117.1.1, x117.1.2 + 3)) rfl rfl hr167) ?_
                refine GL.val ⟨_, _, rfl, rfl, hc165⟩ rfl (OV.fieldAddr (p := x117.2) rfl rfl) ?_
                obtain ⟨x168, hr169, h⟩ := h
                refine GL.val ⟨_, _, rfl, rfl, hc165⟩ rfl (OV.load (p := (x117.2.1, x117.2.2 + 3)) rfl rfl hr169) ?_
                refine GL.val ⟨_, _, rfl, rfl, hc165⟩ rfl (OV.neqBool rfl rfl rfl) ?_
                refine GL.val trivial rfl (OV.pickF (b := !(x158 == x160)) (v := .bool (!(x166 == x168))) rfl hc165 rfl) ?_
                exact GL.jump (fun _ _ h => h) (!(x166 == x168)) h ⟨rfl, rfl, rfl, rfl, rfl, rfl, trivial⟩
            intro b162 H170 h
            replace h := hR164 b162 H170 h
            refine GL.val trivial rfl (OV.move (v := .bool b162) rfl) ?_
            obtain ⟨J172, h, hR173⟩ := h
            refine GL.cut (α := Bool) 6 J172 (fun b171 => [(136, .bool b171), (2, pv (some (b1, 0))), (3, pv (some (b3, 0))), (7, .int .i64 x110), (8, pv (some x117.1)), (9, pv (some x117.2))]) ?_ ?_
            · rcases Bool.eq_false_or_eq_true b162 with hc174 | hc174
              · skip
                replace h := And.left h hc174
                refine GL.skip ⟨_, rfl, .inl ⟨_, rfl, hc174⟩⟩ rfl ?_
                refine GL.skip ⟨_, rfl, .inl ⟨_, rfl, hc174⟩⟩ rfl ?_
                refine GL.skip ⟨_, rfl, .inl ⟨_, rfl, hc174⟩⟩ rfl ?_
                refine GL.skip ⟨_, rfl, .inl ⟨_, rfl, hc174⟩⟩ rfl ?_
                refine GL.skip ⟨_, rfl, .inl ⟨_, rfl, hc174⟩⟩ rfl ?_
                refine GL.val trivial rfl (OV.pickT (b := b162) (v := .bool true) rfl hc174 rfl) ?_
                exact GL.jump (fun _ _ h => h) true h ⟨rfl, rfl, rfl, rfl, rfl, rfl, trivial⟩
              · skip
                replace h := And.right h hc174
                refine GL.val ⟨_, _, rfl, rfl, hc174⟩ rfl (OV.fieldAddr (p := x117.1) rfl rfl) ?_
                obtain ⟨x175, hr176, h⟩ := h
                refine GL.val ⟨_, _, rfl, rfl, hc174⟩ rfl (OV.load (p := (x117.1.1, x117.1.2 + 4)) rfl rfl hr176) ?_
                refine GL.val ⟨_, _, rfl, rfl, hc174⟩ rfl (OV.fieldAddr (p := x117.2) rfl rfl) ?_
                obtain ⟨x177, hr178, h⟩ := h
                refine GL.val ⟨_, _, rfl, rfl, hc174⟩ rfl (OV.load (p := (x117.2.1, x117.2.2 + 4)) rfl rfl hr178) ?_
                refine GL.val ⟨_, _, rfl, rfl, hc174⟩ rfl (OV.sbin (a := x175) (b := x177) (v := .bool (!(x175 == x177))) rfl rfl rfl) ?_
                refine GL.val trivial rfl (OV.pickF (b := b162) (v := .bool (!(x175 == x177))) rfl hc174 rfl) ?_
                exact GL.jump (fun _ _ h => h) (!(x175 == x177)) h ⟨rfl, rfl, rfl, rfl, rfl, rfl, trivial⟩
            intro b171 H179 h
            replace h := hR173 b171 H179 h
            refine GL.val trivial rfl (OV.move (v := .bool b171) rfl) ?_
            obtain ⟨J181, h, hR182⟩ := h
            refine GL.cut (α := Bool) 7 J181 (fun b180 => [(144, .bool b180), (2, pv (some (b1, 0))), (3, pv (some (b3, 0))), (7, .int .i64 x110)]) ?_ ?_
            · rcases Bool.eq_false_or_eq_true b171 with hc183 | hc183
              · skip
                replace h := And.left h hc183
                refine GL.skip ⟨_, rfl, .inl ⟨_, rfl, hc183⟩⟩ rfl ?_
                refine GL.skip ⟨_, rfl, .inl ⟨_, rfl, hc183⟩⟩ rfl ?_
                refine GL.skip ⟨_, rfl, .inl ⟨_, rfl, hc183⟩⟩ rfl ?_
                refine GL.skip ⟨_, rfl, .inl ⟨_, rfl, hc183⟩⟩ rfl ?_
                refine GL.skip ⟨_, rfl, .inl ⟨_, rfl, hc183⟩⟩ rfl ?_
                refine GL.skip ⟨_, rfl, .inl ⟨_, rfl, hc183⟩⟩ rfl ?_
                refine GL.val trivial rfl (OV.pickT (b := b171) (v := .bool true) rfl hc183 rfl) ?_
                exact GL.jump (fun _ _ h => h) true h ⟨rfl, rfl, rfl, rfl, trivial⟩
              · skip
                replace h := And.right h hc183
                refine GL.val ⟨_, _, rfl, rfl, hc183⟩ rfl (OV.fieldAddr (p := x117.1) rfl rfl) ?_
                obtain ⟨x184, hr185, h⟩ := h
                refine GL.val ⟨_, _, rfl, rfl, hc183⟩ rfl (OV.load (p := (x117.1.1, x117.1.2 + 5)) rfl rfl hr185) ?_
                refine GL.val ⟨_, _, rfl, rfl, hc183⟩ rfl (OV.fieldAddr (p := x117.2) rfl rfl) ?_
                obtain ⟨x186, hr187, h⟩ := h
                refine GL.val ⟨_, _, rfl, rfl, hc183⟩ rfl (OV.load (p := (x117.2.1, x117.2.2 + 5)) rfl rfl hr187) ?_
                refine GL.call h ⟨_, _, rfl, rfl, hc183⟩ rfl ok_ref06_SameFields (vs := [slv x184, slv x186]) rfl ?_
                rintro _ H189 ⟨r188, rfl, h⟩
                refine GL.val ⟨_, _, rfl, rfl, hc183⟩ rfl (OV.not rfl) ?_
                refine GL.val trivial rfl (OV.pickF (b := b171) (v := .bool (!r188)) rfl hc183 rfl) ?_
                exact GL.jump (fun _ _ h => h) (!r188) h ⟨rfl, rfl, rfl, rfl, trivial⟩
            intro b180 H190 h
            replace h := hR182 b180 H190 h
            refine GL.nil ?_
            refine GC.cond (b := b180) rfl (fun hc191 => ?_) (fun hc191 => ?_)
            · replace h := And.left h hc191
              refine GC.seq ?_
              refine GC.region ?_
              refine GL.val trivial rfl (OV.assign (v := .bool false) rfl) ?_
              refine GL.nil ?_
              exact GC.ret (fun _ _ hf hs => post_tmp1 rfl rfl hf hs ⟨false, rfl, h⟩)
            · replace h := And.right h hc191
              refine GC.skip_to (fun _ _ h => h) ?_
              refine GC.region ?_
              refine GL.val trivial rfl (OV.move (v := .int .i64 x110) rfl) ?_
              refine GL.val trivial rfl (OV.ibin (v := .int .i64 (w .i64 (x110 + 1))) rfl rfl rfl) ?_
              refine GL.val trivial rfl (OV.assign (v := .int .i64 (w .i64 (x110 + 1))) rfl) ?_
              exact GL.jump (fun _ _ h => h) (w .i64 (x110 + 1)) h ⟨rfl, rfl, rfl, trivial⟩
        · replace h := And.right h hc115
          refine GC.exit_to (fun _ _ h => h) ?_
          refine GC.seq ?_
          refine GC.seq ?_
          refine GC.region ?_
          refine GL.val trivial rfl (OV.assign (v := .int .i64 0) rfl) ?_
          refine GL.nil ?_
          refine GC.block ?_
          refine GC.loop (α := Int) h (fun x192 => [(10, .int .i64 x192), (2, pv (some (b1, 0))), (3, pv (some (b3, 0)))]) ⟨rfl, rfl, rfl, trivial⟩ ?_
          intro x192 H194 J193 h
          refine GC.seq ?_
          refine GC.seq ?_
          refine GC.region ?_
          refine GL.val trivial rfl (OV.move (v := .int .i64 x192) rfl) ?_
          refine GL.val trivial rfl (OV.fieldAddr (p := (b1, 0)) rfl rfl) ?_
          obtain ⟨x195, hr196, h⟩ := h
          refine GL.val trivial rfl (OV.load (p := ((b1, 0).1, (b1, 0).2 + 4)) rfl rfl hr196) ?_
          refine GL.val trivial rfl (OV.lenSl (s := x195) rfl rfl) ?_
          refine GL.val trivial rfl (OV.ibin (v := .bool (decide ((x192 : Int) < (Sl.len x195 : Int)))) rfl rfl rfl) ?_
          refine GL.nil ?_
          refine GC.cond (b := decide ((x192 : Int) < (Sl.len x195 : Int))) rfl (fun hc197 => ?_) (fun hc197 => ?_)
          · replace h := And.left h hc197
            refine GC.skip ?_
            refine GC.seq ?_
            refine GC.block ?_
            refine GC.seq ?_
            obtain ⟨Hs198, hle199, h⟩ := h
            refine GC.any (Hs := Hs198) (by kernel_rfl) hle199 ?_
            refine GA.take 0 rfl (by kernel_rfl) (by kernel_rfl) (by kernel_rfl) (fun _ _ _ h => False.elim h) trivial rfl (OV.fieldAddr (p := (b1, 0)) rfl rfl) ?_
            obtain ⟨x200, hr201, h⟩ := h
            refine GA.take 1 rfl (by kernel_rfl) (by kernel_rfl) (by kernel_rfl) (fun _ _ _ h => False.elim h) trivial rfl (OV.load (p := ((b1, 0).1, (b1, 0).2 + 4)) rfl rfl hr201) ?_
            refine GA.take 2 rfl (by kernel_rfl) (by kernel_rfl) (by kernel_rfl) (fun _ _ _ h => False.elim h) trivial rfl (OV.move (v := .int .i64 x192) rfl) ?_
            obtain ⟨p202, ha203, hb204, hc205, hd206, h⟩ := h
            refine GA.take 3 rfl (by kernel_rfl) (by kernel_rfl) (by kernel_rfl) (fun _ _ _ h => False.elim h) trivial rfl (OV.indexAddr (s := x200) rfl rfl rfl rfl ha203 hb204 hc205 hd206) ?_
            obtain ⟨x207, hr208, h⟩ := h
            refine GA.take 4 rfl (by kernel_rfl) (by kernel_rfl) (by kernel_rfl) (fun _ _ _ h => False.elim h) trivial rfl (OV.loadT (p := (p202.1, p202.2 + (x192 : Int).toNat * 6)) (cs := T_api_Rule.c x207) rfl rfl rfl hr208) ?_
            refine GA.take 5 rfl (by kernel_rfl) (by kernel_rfl) (by kernel_rfl) (fun _ _ _ h => False.elim h) trivial rfl (OV.fieldAddr (p := (b3, 0)) rfl rfl) ?_
            obtain ⟨x209, hr210, h⟩ := h
            refine GA.take 6 rfl (by kernel_rfl) (by kernel_rfl) (by kernel_rfl) (fun _ _ _ h => False.elim h) trivial rfl (OV.load (p := ((b3, 0).1, (b3, 0).2 + 4)) rfl rfl hr210) ?_
            refine GA.take 7 rfl (by kernel_rfl) (by kernel_rfl) (by kernel_rfl) (fun _ _ _ h => False.elim h) trivial rfl (OV.move (v := .int .i64 x192) rfl) ?_
            obtain ⟨p211, ha212, hb213, hc214, hd215, h⟩ := h
            refine GA.take 8 rfl (by kernel_rfl) (by kernel_rfl) (by kernel_rfl) (fun _ _ _ h => False.elim h) trivial rfl (OV.indexAddr (s := x209) rfl rfl rfl rfl ha212 hb213 hc214 hd215) ?_
            obtain ⟨x216, hr217, h⟩ := h
            refine GA.take 9 rfl (by kernel_rfl) (by kernel_rfl) (by kernel_rfl) (fun _ _ _ h => False.elim h) trivial rfl (OV.loadT (p := (p211.1, p211.2 + (x192 : Int).toNat * 6)) (cs := T_api_Rule.c x216) rfl rfl rfl hr217) ?_
            refine GA.eff 10 rfl (by kernel_rfl) ?_
            refine GL.call h trivial rfl ok_ref06_SameRule (vs := [.agg (T_api_Rule.c x207).toArray, .agg (T_api_Rule.c x216).toArray]) rfl ?_
            rintro _ H220 ⟨r219, rfl, h⟩
            obtain ⟨hle218, h⟩ := h
            refine GA.back hle218 ?_
            refine GA.take 11 rfl (by kernel_rfl) (by kernel_rfl) (by kernel_rfl) (fun _ _ _ h => False.elim h) trivial rfl (OV.not rfl) ?_
            refine GA.done (by kernel_rfl) ?_
            refine GL.nil ?_
            refine GC.cond (b := !r219) rfl (fun hc221 => ?_) (fun hc221 => ?_)
            · replace h := And.left h hc221
              refine GC.seq ?_
              refine GC.region ?_
              refine GL.val trivial rfl (OV.assign (v := .bool false) rfl) ?_
              refine GL.nil ?_
              exact GC.ret (fun _ _ hf hs => post_tmp1 rfl rfl hf hs ⟨false, rfl, h⟩)
            · replace h := And.right h hc221
              refine GC.skip_to (fun _ _ h => h) ?_
              refine GC.region ?_
              refine GL.val trivial rfl (OV.move (v := .int .i64 x192) rfl) ?_
              refine GL.val trivial rfl (OV.ibin (v := .int .i64 (w .i64 (x192 + 1))) rfl rfl rfl) ?_
              refine GL.val trivial rfl (OV.assign (v := .int .i64 (w .i64 (x192 + 1))) rfl) ?_
              exact GL.jump (fun _ _ h => h) (w .i64 (x192 + 1)) h ⟨rfl, rfl, rfl, trivial⟩
          · replace h := And.right h hc197
            refine GC.exit_to (fun _ _ h => h) ?_
            refine GC.seq ?_
            refine GC.seq ?_
            refine GC.region ?_
            refine GL.val trivial rfl (OV.assign (v := .int .i64 0) rfl) ?_
            refine GL.nil ?_
            refine GC.block ?_
            refine GC.loop (α := Int) h (fun x222 => [(11, .int .i64 x222), (2, pv (some (b1, 0))), (3, pv (some (b3, 0)))]) ⟨rfl, rfl, rfl, trivial⟩ ?_
            intro x222 H224 J223 h
            refine GC.seq ?_
            refine GC.seq ?_
            refine GC.region ?_
            refine GL.val trivial rfl (OV.move (v := .int .i64 x222) rfl) ?_
            refine GL.val trivial rfl (OV.fieldAddr (p := (b1, 0)) rfl rfl) ?_
            obtain ⟨x225, hr226, h⟩ := h
            refine GL.val trivial rfl (OV.load (p := ((b1, 0).1, (b1, 0).2 + 5)) rfl rfl hr226) ?_
            refine GL.val trivial rfl (OV.lenSl (s := x225) rfl rfl) ?_
            refine GL.val trivial rfl (OV.ibin (v := .bool (decide ((x222 : Int) < (Sl.len x225 : Int)))) rfl rfl rfl) ?_
            refine GL.nil ?_
            refine GC.cond (b := decide ((x222 : Int) < (Sl.len x225 : Int))) rfl (fun hc227 => ?_) (fun hc227 => ?_)
            · replace h := And.left h hc227
              refine GC.skip ?_
              refine GC.seq ?_
              refine GC.block ?_
              refine GC.seq ?_
              obtain ⟨J228, h, hR231⟩ := h
              refine GC.meet (α := Bool) J228 (fun x229 => [(199, .bool x229), (2, pv (some (b1, 0))), (3, pv (some (b3, 0))), (11, .int .i64 x222)]) ?_ ?_
              · skip
                obtain ⟨Hs232, hle233, h⟩ := h
                refine GC.any (Hs := Hs232) (by kernel_rfl) hle233 ?_
                refine GA.take 0 rfl (by kernel_rfl) (by kernel_rfl) (by kernel_rfl) (fun _ _ _ h => False.elim h) trivial rfl (OV.fieldAddr (p := (b1, 0)) rfl rfl) ?_
                obtain ⟨x234, hr235, h⟩ := h
                refine GA.take 1 rfl (by kernel_rfl) (by kernel_rfl) (by kernel_rfl) (fun _ _ _ h => False.elim h) trivial rfl (OV.load (p := ((b1, 0).1, (b1, 0).2 + 5)) rfl rfl hr235) ?_
                refine GA.take 2 rfl (by kernel_rfl) (by kernel_rfl) (by kernel_rfl) (fun _ _ _ h => False.elim h) trivial rfl (OV.move (v := .int .i64 x222) rfl) ?_
                obtain ⟨p236, ha237, hb238, hc239, hd240, h⟩ := h
                refine GA.take 3 rfl (by kernel_rfl) (by kernel_rfl) (by kernel_rfl) (fun _ _ _ h => False.elim h) trivial rfl (OV.indexAddr (s := x234) rfl rfl rfl rfl ha237 hb238 hc239 hd240) ?_
                refine GA.take 4 rfl (by kernel_rfl) (by kernel_rfl) (by kernel_rfl) (fun _ _ _ h => False.elim h) trivial rfl (OV.fieldAddr (p := (p236.1, p236.2 + (x222 : Int).toNat * 4)) rfl rfl) ?_
                obtain ⟨x241, hr242, h⟩ := h
                refine GA.take 5 rfl (by kernel_rfl) (by kernel_rfl) (by kernel_rfl) (fun _ _ _ h => False.elim h) trivial rfl (OV.load (p := ((p236.1, p236.2 + (x222 : Int).toNat * 4).1, (p236.1, p236.2 + (x222 : Int).toNat * 4).2 + 2)) rfl rfl hr242) ?_
                refine GA.take 6 rfl (by kernel_rfl) (by kernel_rfl) (by kernel_rfl) (fun _ _ _ h => False.elim h) trivial rfl (OV.fieldAddr (p := (b3, 0)) rfl rfl) ?_
                obtain ⟨x243, hr244, h⟩ := h
                refine GA.take 7 rfl (by kernel_rfl) (by kernel_rfl) (by kernel_rfl) (fun _ _ _ h => False.elim h) trivial rfl (OV.load (p := ((b3, 0).1, (b3, 0).2 + 5)) rfl rfl hr244) ?_
                refine GA.take 8 rfl (by kernel_rfl) (by kernel_rfl) (by kernel_rfl) (fun _ _ _ h => False.elim h) trivial rfl (OV.move (v := .int .i64 x222) rfl) ?_
                obtain ⟨p245, ha246, hb247, hc248, hd249, h⟩ := h
                refine GA.take 9 rfl (by kernel_rfl) (by kernel_rfl) (by kernel_rfl) (fun _ _ _ h => False.elim h) trivial rfl (OV.indexAddr (s := x243) rfl rfl rfl rfl ha246 hb247 hc248 hd249) ?_
                refine GA.take 10 rfl (by kernel_rfl) (by kernel_rfl) (by kernel_rfl) (fun _ _ _ h => False.elim h) trivial rfl (OV.fieldAddr (p := (p245.1, p245.2 + (x222 : Int).toNat * 4)) rfl rfl) ?_
                obtain ⟨x250, hr251, h⟩ := h
                refine GA.take 11 rfl (by kernel_rfl) (by kernel_rfl) (by kernel_rfl) (fun _ _ _ h => False.elim h) trivial rfl (OV.load (p := ((p245.1, p245.2 + (x222 : Int).toNat * 4).1, (p245.1, p245.2 + (x222 : Int).toNat * 4).2 + 2)) rfl rfl hr251) ?_
                refine GA.take 12 rfl (by kernel_rfl) (by kernel_rfl) (by kernel_rfl) (fun _ _ _ h => False.elim h) trivial rfl (OV.sbin (a := x241) (b := x250) (v := .bool (!(x241 == x250))) rfl rfl rfl) ?_
                refine GA.take 13 rfl (by kernel_rfl) (by kernel_rfl) (by kernel_rfl) (fun _ _ _ h => False.elim h) trivial rfl (OV.move (v := .bool (!(x241 == x250))) rfl) ?_
                rcases Bool.eq_false_or_eq_true (!(x241 == x250)) with hc252 | hc252
                · replace h := And.left h hc252
                  refine GA.skip 14 rfl (by kernel_rfl) (by kernel_rfl) (by kernel_rfl) (fun _ _ _ h => False.elim h) ⟨_, rfl, .inl ⟨_, rfl, hc252⟩⟩ rfl ?_
                  refine GA.skip 15 rfl (by kernel_rfl) (by kernel_rfl) (by kernel_rfl) (fun _ _ _ h => False.elim h) ⟨_, rfl, .inl ⟨_, rfl, hc252⟩⟩ rfl ?_
                  refine GA.skip 16 rfl (by kernel_rfl) (by kernel_rfl) (by kernel_rfl) (fun _ _ _ h => False.elim h) ⟨_, rfl, .inl ⟨_, rfl, hc252⟩⟩ rfl ?_
                  refine GA.skip 17 rfl (by kernel_rfl) (by kernel_rfl) (by kernel_rfl) (fun _ _ _ h => False.elim h) ⟨_, rfl, .inl ⟨_, rfl, hc252⟩⟩ rfl ?_
                  refine GA.skip 18 rfl (by kernel_rfl) (by kernel_rfl) (by kernel_rfl) (fun _ _ _ h => False.elim h) ⟨_, rfl, .inl ⟨_, rfl, hc252⟩⟩ rfl ?_
                  refine GA.skip 19 rfl (by kernel_rfl) (by kernel_rfl) (by kernel_rfl) (fun _ _ _ h => False.elim h) ⟨_, rfl, .inl ⟨_, rfl, hc252⟩⟩ rfl ?_
                  refine GA.skip 20 rfl (by kernel_rfl) (by kernel_rfl) (by kernel_rfl) (fun _ _ _ h => False.elim h) ⟨_, rfl, .inl ⟨_, rfl, hc252⟩⟩ rfl ?_
                  refine GA.skip 21 rfl (by kernel_rfl) (by kernel_rfl) (by kernel_rfl) (fun _ _ _ h => False.elim h) ⟨_, rfl, .inl ⟨_, rfl, hc252⟩⟩ rfl ?_
                  refine GA.skip 22 rfl (by kernel_rfl) (by kernel_rfl) (by kernel_rfl) (fun _ _ _ h => False.elim h) ⟨_, rfl, .inl ⟨_, rfl, hc252⟩⟩ rfl ?_
                  refine GA.skip 23 rfl (by kernel_rfl) (by kernel_rfl) (by kernel_rfl) (fun _ _ _ h => False.elim h) ⟨_, rfl, .inl ⟨_, rfl, hc252⟩⟩ rfl ?_
                  refine GA.skip 24 rfl (by kernel_rfl) (by kernel_rfl) (by kernel_rfl) (fun _ _ _ h => False.elim h) ⟨_, rfl, .inl ⟨_, rfl, hc252⟩⟩ rfl ?_
                  refine GA.skip 25 rfl (by kernel_rfl) (by kernel_rfl) (by kernel_rfl) (fun _ _ _ h => False.elim h) ⟨_, rfl, .inl ⟨_, rfl, hc252⟩⟩ rfl ?_
                  refine GA.skip 26 rfl (by kernel_rfl) (by kernel_rfl) (by kernel_rfl) (fun _ _ _ h => False.elim h) ⟨_, rfl, .inl ⟨_, rfl, hc252⟩⟩ rfl ?_
                  refine GA.skip 27 rfl (by kernel_rfl) (by kernel_rfl) (by kernel_rfl) (fun _ _ _ h => False.elim h) ⟨_, rfl, .inl ⟨_, rfl, hc252⟩⟩ rfl ?_
                  refine GA.take 28 rfl (by kernel_rfl) (by kernel_rfl) (by kernel_rfl) (fun _ _ _ h => False.elim h) trivial rfl (OV.pickT (b := !(x241 == x250)) (v := .bool true) rfl hc252 rfl) ?_
                  refine GA.done (by kernel_rfl) ?_
                  exact GL.jump (fun _ _ h => h) true h ⟨rfl, rfl, rfl, rfl, trivial⟩
                · replace h := And.right h hc252
                  refine GA.take 14 rfl (by kernel_rfl) (by kernel_rfl) (by kernel_rfl) (fun _ _ _ h => False.elim h) ⟨_, _, rfl, rfl, hc252⟩ rfl (OV.fieldAddr (p := (b1, 0)) rfl rfl) ?_
                  obtain ⟨x253, hr254, h⟩ := h
                  refine GA.take 15 rfl (by kernel_rfl) (by kernel_rfl) (by kernel_rfl) (fun _ _ _ h => False.elim h) ⟨_, _, rfl, rfl, hc252⟩ rfl (OV.load (p := ((b1, 0).1, (b1, 0).2 + 5)) rfl rfl hr254) ?_
                  refine GA.take 16 rfl (by kernel_rfl) (by kernel_rfl) (by kernel_rfl) (fun _ _ _ h => False.elim h) ⟨_, _, rfl, rfl, hc252⟩ rfl (OV.move (v := .int .i64 x222) rfl) ?_
                  obtain ⟨p255, ha256, hb257, hc258, hd259, h⟩ := h
                  refine GA.take 17 rfl (by kernel_rfl) (by kernel_rfl) (by kernel_rfl) (fun _ _ _ h => False.elim h) ⟨_, _, rfl, rfl, hc252⟩ rfl (OV.indexAddr (s := x253) rfl rfl rfl rfl ha256 hb257 hc258 hd259) ?_
                  refine GA.take 18 rfl (by kernel_rfl) (by kernel_rfl) (by kernel_rfl) (fun _ _ _ h => False.elim h) ⟨_, _, rfl, rfl, hc252⟩ rfl (OV.fieldAddr (p := (p255.1, p255.2 + (x222 : Int).toNat * 4)) rfl rfl) ?_
                  obtain ⟨x260, hr261, h⟩ := h
                  refine GA.take 19 rfl (by kernel_rfl) (by kernel_rfl) (by kernel_rfl) (fun _ _ _ h => False.elim h) ⟨_, _, rfl, rfl, hc252⟩ rfl (OV.load (p := ((p255.1, p255.2 + (x222 : Int).toNat * 4).1, (p255.1, p255.2 + (x222 : Int).toNat * 4).2 + 3)) rfl rfl hr261) ?_
                  refine GA.take 20 rfl (by kernel_rfl) (by kernel_rfl) (by kernel_rfl) (fun _ _ _ h => False.elim h) ⟨_, _, rfl, rfl, hc252⟩ rfl (OV.fieldAddr (p := (b3, 0)) rfl rfl) ?_
                  obtain ⟨x262, hr263, h⟩ := h
                  refine GA.take 21 rfl (by kernel_rfl) (by kernel_rfl) (by kernel_rfl) (fun _ _ _ h => False.elim h) ⟨_, _, rfl, rfl, hc252⟩ rfl (OV.load (p := ((b3, 0).1, (b3, 0).2 + 5)) rfl rfl hr263) ?_
                  refine GA.take 22 rfl (by kernel_rfl) (by kernel_rfl) (by kernel_rfl) (fun _ _ _ h => False.elim h) ⟨_, _, rfl, rfl, hc252⟩ rfl (OV.move (v := .int .i64 x222) rfl) ?_
                  obtain ⟨p264, ha265, hb266, hc267, hd268, h⟩ := h
                  refine GA.take 23 rfl (by kernel_rfl) (by kernel_rfl) (by kernel_rfl) (fun _ _ _ h => False.elim h) ⟨_, _, rfl, rfl, hc252⟩ rfl (OV.indexAddr (s := x262) rfl rfl rfl rfl ha265 hb266 hc267 hd268) ?_
                  refine GA.take 24 rfl (by kernel_rfl) (by kernel_rfl) (by kernel_rfl) (fun _ _ _ h => False.elim h) ⟨_, _, rfl, rfl, hc252⟩ rfl (OV.fieldAddr (p := (p264.1, p264.2 + (x222 : Int).toNat * 4)) rfl rfl) ?_
                  obtain ⟨x269, hr270, h⟩ := h
                  refine GA.take 25 rfl (by kernel_rfl) (by kernel_rfl) (by kernel_rfl) (fun _ _ _ h => False.elim h) ⟨_, _, rfl, rfl, hc252⟩ rfl (OV.load (p := ((p264.1, p264.2 + (x222 : Int).toNat * 4).1, (p264.1, p264.2 + (x222 : Int).toNat * 4).2 + 3)) rfl rfl hr270) ?_
                  refine GA.eff 26 rfl (by kernel_rfl) ?_
                  refine GL.call h ⟨_, _, rfl, rfl, hc252⟩ rfl ok_ref06_SameBody (vs := [slv x260, slv x269]) rfl ?_
                  rintro _ H273 ⟨r272, rfl, h⟩
                  obtain ⟨hle271, h⟩ := h
                  refine GA.back hle271 ?_
                  refine GA.take 27 rfl (by kernel_rfl) (by kernel_rfl) (by kernel_rfl) (fun _ _ _ h => False.elim h) ⟨_, _, rfl, rfl, hc252⟩ rfl (OV.not rfl) ?_
                  refine GA.take 28 rfl (by kernel_rfl) (by kernel_rfl) (by kernel_rfl) (fun _ _ _ h => False.elim h) trivial rfl (OV.pickF (b := !(x241 == x250)) (v := .bool (!r272)) rfl hc252 rfl) ?_
                  refine GA.done (by kernel_rfl) ?_
                  exact GL.jump (fun _ _ h => h) (!r272) h ⟨rfl, rfl, rfl, rfl, trivial⟩
              · intro x229 H230 h
                replace h := hR231 x229 H230 h
                refine GL.nil ?_
                refine GC.cond (b := x229) rfl (fun hc274 => ?_) (fun hc274 => ?_)
                · replace h := And.left h hc274
                  refine GC.seq ?_
                  refine GC.region ?_
                  refine GL.val trivial rfl (OV.assign (v := .bool false) rfl) ?_
                  refine GL.nil ?_
                  exact GC.ret (fun _ _ hf hs => post_tmp1 rfl rfl hf hs ⟨false, rfl, h⟩)
                · replace h := And.right h hc274
                  refine GC.skip_to (fun _ _ h => h) ?_
                  refine GC.region ?_
                  refine GL.val trivial rfl (OV.move (v := .int .i64 x222) rfl) ?_
                  refine GL.val trivial rfl (OV.ibin (v := .int .i64 (w .i64 (x222 + 1))) rfl rfl rfl) ?_
                  refine GL.val trivial rfl (OV.assign (v := .int .i64 (w .i64 (x222 + 1))) rfl) ?_
                  exact GL.jump (fun _ _ h => h) (w .i64 (x222 + 1)) h ⟨rfl, rfl, rfl, trivial⟩
            · replace h := And.right h hc227
              refine GC.exit_to (fun _ _ h => h) ?_
              refine GC.seq ?_
              refine GC.region ?_
              refine GL.val trivial rfl (OV.assign (v := .bool true) rfl) ?_
              refine GL.nil ?_
              exact GC.ret (fun _ _ hf hs => post_tmp1 rfl rfl hf hs ⟨true, rfl, h⟩)

def sh_law06_exprs (C : Ctx) (p_l : Sl) (p_most : Int) (K : Int → Heap → Prop) (H : Heap) : Prop :=
  lp (α := Int × Int) (0, 0) H (fun x1 J2 H3 =>
 ift ((decide ((x1.2 : Int) < (Sl.len p_l : Int))) && (decide ((x1.1 : Int) < p_most)))
 (ixa p_l x1.2 fun p6 =>
 ldS H3 ((p6.1, p6.2 + (x1.2 : Int).toNat * 9).1, (p6.1, p6.2 + (x1.2 : Int).toNat * 9).2 + 3) fun x11 =>
 ixa p_l x1.2 fun p13 =>
 ldS H3 (((p13.1, p13.2 + (x1.2 : Int).toNat * 9).1, (p13.1, p13.2 + (x1.2 : Int).toNat * 9).2 + 4).1, ((p13.1, p13.2 + (x1.2 : Int).toNat * 9).1, (p13.1, p13.2 + (x1.2 : Int).toNat * 9).2 + 4).2 + 2) fun x18 =>
 ixa p_l x1.2 fun p20 =>
 ldL H3 (((p20.1, p20.2 + (x1.2 : Int).toNat * 9).1, (p20.1, p20.2 + (x1.2 : Int).toNat * 9).2 + 4).1, ((p20.1, p20.2 + (x1.2 : Int).toNat * 9).1, (p20.1, p20.2 + (x1.2 : Int).toNat * 9).2 + 4).2 + 3) fun x25 =>
 ixa p_l x1.2 fun p27 =>
 ldL H3 ((p27.1, p27.2 + (x1.2 : Int).toNat * 9).1, (p27.1, p27.2 + (x1.2 : Int).toNat * 9).2 + 8) fun x32 =>
 c_law06_exprs C x32 (w .i64 (p_most - (w .i64 ((w .i64 ((w .i64 ((w .i64 (x1.1 + 1)) + (w .i64 (Int.tdiv (List.length x11 : Int) 50)))) + (w .i64 (Int.tdiv (List.length x18 : Int) 50)))) + (Sl.len x25 : Int))))) (fun r34 H35 =>
 J2 ((w .i64 ((w .i64 ((w .i64 ((w .i64 ((w .i64 (x1.1 + 1)) + (w .i64 (Int.tdiv (List.length x11 : Int) 50)))) + (w .i64 (Int.tdiv (List.length x18 : Int) 50)))) + (Sl.len x25 : Int))) + r34)), (w .i64 (x1.2 + 1))) H35) H3)
 (K x1.1 H3))

theorem ad_law06_exprs (C : Ctx) (p_l : Sl) (p_most : Int) (K : Int → Heap → Prop) (H : Heap) (h : sh_law06_exprs C p_l p_most K H) : c_law06_exprs C p_l p_most K H := by
  refine Spec.enter Tryz.func19 rfl Tryz.ntmps19 rfl ?_
  refine GC.sub [(0, slv p_l), (1, .int .i64 p_most)] ⟨rfl, rfl, trivial⟩ ?_
  refine GC.seq ?_
  refine GC.region ?_
  refine GL.val trivial rfl (OV.assign (v := .int .i64 0) rfl) ?_
  refine GL.nil ?_
  refine GC.seq ?_
  refine GC.region ?_
  refine GL.val trivial rfl (OV.assign (v := .int .i64 0) rfl) ?_
  refine GL.nil ?_
  refine GC.seq ?_
  refine GC.seq ?_
  refine GC.region ?_
  refine GL.val trivial rfl (OV.assign (v := .int .i64 0) rfl) ?_
  refine GL.nil ?_
  refine GC.block ?_
  refine GC.loop (α := Int × Int) h (fun x1 => [(5, .int .i64 x1.1), (6, .int .i64 x1.2), (0, slv p_l), (1, .int .i64 p_most)]) ⟨rfl, rfl, rfl, rfl, trivial⟩ ?_
  intro x1 H3 J2 h
  refine GC.seq ?_
  refine GC.seq ?_
  refine GC.region ?_
  refine GL.val trivial rfl (OV.move (v := .int .i64 x1.2) rfl) ?_
  refine GL.val trivial rfl (OV.move (v := slv p_l) rfl) ?_
  refine GL.val trivial rfl (OV.lenSl (s := p_l) rfl rfl) ?_
  refine GL.val trivial rfl (OV.ibin (v := .bool (decide ((x1.2 : Int) < (Sl.len p_l : Int)))) rfl rfl rfl) ?_
  refine GL.val trivial rfl (OV.move (v := .bool (decide ((x1.2 : Int) < (Sl.len p_l : Int)))) rfl) ?_
  refine GL.cut0 4 [(15, .bool ((decide ((x1.2 : Int) < (Sl.len p_l : Int))) && (decide ((x1.1 : Int) < p_most)))), (0, slv p_l), (1, .int .i64 p_most), (5, .int .i64 x1.1), (6, .int .i64 x1.2)] ?_ ?_
  · rcases Bool.eq_false_or_eq_true (decide ((x1.2 : Int) < (Sl.len p_l : Int))) with hc4 | hc4
    · skip
      refine GL.val ⟨_, _, rfl, rfl, hc4⟩ rfl (OV.move (v := .int .i64 x1.1) rfl) ?_
      refine GL.val ⟨_, _, rfl, rfl, hc4⟩ rfl (OV.move (v := .int .i64 p_most) rfl) ?_
      refine GL.val ⟨_, _, rfl, rfl, hc4⟩ rfl (OV.ibin (v := .bool (decide ((x1.1 : Int) < p_most))) rfl rfl rfl) ?_
      refine GL.val trivial rfl (OV.pickT (b := decide ((x1.2 : Int) < (Sl.len p_l : Int))) (v := .bool (decide ((x1.1 : Int) < p_most))) rfl hc4 rfl) ?_
      exact GL.jump0 (fun _ _ h => h) () rfl ⟨(by rw [hc4]; rfl), rfl, rfl, rfl, rfl, trivial⟩
    · skip
      refine GL.skip ⟨_, rfl, .inl ⟨_, rfl, hc4⟩⟩ rfl ?_
      refine GL.skip ⟨_, rfl, .inl ⟨_, rfl, hc4⟩⟩ rfl ?_
      refine GL.skip ⟨_, rfl, .inl ⟨_, rfl, hc4⟩⟩ rfl ?_
      refine GL.val trivial rfl (OV.pickF (b := decide ((x1.2 : Int) < (Sl.len p_l : Int))) (v := .bool false) rfl hc4 rfl) ?_
      exact GL.jump0 (fun _ _ h => h) () rfl ⟨(by rw [hc4]; rfl), rfl, rfl, rfl, rfl, trivial⟩
  refine GL.nil ?_
  refine GC.cond (b := (decide ((x1.2 : Int) < (Sl.len p_l : Int))) && (decide ((x1.1 : Int) < p_most))) rfl (fun hc5 => ?_) (fun hc5 => ?_)
  · replace h := And.left h hc5
    refine GC.skip ?_
    refine GC.seq ?_
    refine GC.block ?_
    refine GC.seq ?_
    refine GC.draw (by kernel_rfl) (by kernel_rfl) ?_
    refine GQ.val trivial rfl (OV.move (v := .int .i64 x1.1) rfl) ?_
    refine GQ.val trivial rfl (OV.ibin (v := .int .i64 (w .i64 (x1.1 + 1))) rfl rfl rfl) ?_
    refine GQ.val trivial rfl (OV.move (v := slv p_l) rfl) ?_
    refine GQ.val trivial rfl (OV.move (v := .int .i64 x1.2) rfl) ?_
    obtain ⟨p6, ha7, hb8, hc9, hd10, h⟩ := h
    refine GQ.val trivial rfl (OV.indexAddr (s := p_l) rfl rfl rfl rfl ha7 hb8 hc9 hd10) ?_
    refine GQ.val trivial rfl (OV.fieldAddr (p := (p6.1, p6.2 + (x1.2 : Int).toNat * 9)) rfl rfl) ?_
    obtain ⟨x11, hr12, h⟩ := h
    refine GQ.val trivial rfl (OV.load (p := ((p6.1, p6.2 + (x1.2 : Int).toNat * 9).1, (p6.1, p6.2 + (x1.2 : Int).toNat * 9).2 + 3)) rfl rfl hr12) ?_
    refine GQ.val trivial rfl (OV.lenStr (s := x11) rfl rfl) ?_
    refine GQ.val trivial rfl (OV.quo rfl rfl (by decide)) ?_
    refine GQ.val trivial rfl (OV.ibin (v := .int .i64 (w .i64 ((w .i64 (x1.1 + 1)) + (w .i64 (Int.tdiv (List.length x11 : Int) 50))))) rfl rfl rfl) ?_
    refine GQ.val trivial rfl (OV.move (v := slv p_l) rfl) ?_
    refine GQ.val trivial rfl (OV.move (v := .int .i64 x1.2) rfl) ?_
    obtain ⟨p13, ha14, hb15, hc16, hd17, h⟩ := h
    refine GQ.val trivial rfl (OV.indexAddr (s := p_l) rfl rfl rfl rfl ha14 hb15 hc16 hd17) ?_
    refine GQ.val trivial rfl (OV.fieldAddr (p := (p13.1, p13.2 + (x1.2 : Int).toNat * 9)) rfl rfl) ?_
    refine GQ.val trivial rfl (OV.fieldAddr (p := ((p13.1, p13.2 + (x1.2 : Int).toNat * 9).1, (p13.1, p13.2 + (x1.2 : Int).toNat * 9).2 + 4)) rfl rfl) ?_
    obtain ⟨x18, hr19, h⟩ := h
    refine GQ.val trivial rfl (OV.load (p := (((p13.1, p13.2 + (x1.2 : Int).toNat * 9).1, (p13.1, p13.2 + (x1.2 : Int).toNat * 9).2 + 4).1, ((p13.1, p13.2 + (x1.2 : Int).toNat * 9).1, (p13.1, p13.2 + (x1.2 : Int).toNat * 9).2 + 4).2 + 2)) rfl rfl hr19) ?_
    refine GQ.val trivial rfl (OV.lenStr (s := x18) rfl rfl) ?_
    refine GQ.val trivial rfl (OV.quo rfl rfl (by decide)) ?_
    refine GQ.val trivial rfl (OV.ibin (v := .int .i64 (w .i64 ((w .i64 ((w .i64 (x1.1 + 1)) + (w .i64 (Int.tdiv (List.length x11 : Int) 50)))) + (w .i64 (Int.tdiv (List.length x18 : Int) 50))))) rfl rfl rfl) ?_
    refine GQ.val trivial rfl (OV.move (v := slv p_l) rfl) ?_
    refine GQ.val trivial rfl (OV.move (v := .int .i64 x1.2) rfl) ?_
    obtain ⟨p20, ha21, hb22, hc23, hd24, h⟩ := h
    refine GQ.val trivial rfl (OV.indexAddr (s := p_l) rfl rfl rfl rfl ha21 hb22 hc23 hd24) ?_
    refine GQ.val trivial rfl (OV.fieldAddr (p := (p20.1, p20.2 + (x1.2 : Int).toNat * 9)) rfl rfl) ?_
    refine GQ.val trivial rfl (OV.fieldAddr (p := ((p20.1, p20.2 + (x1.2 : Int).toNat * 9).1, (p20.1, p20.2 + (x1.2 : Int).toNat * 9).2 + 4)) rfl rfl) ?_
    obtain ⟨x25, hr26, h⟩ := h
    refine GQ.val trivial rfl (OV.load (p := (((p20.1, p20.2 + (x1.2 : Int).toNat * 9).1, (p20.1, p20.2 + (x1.2 : Int).toNat * 9).2 + 4).1, ((p20.1, p20.2 + (x1.2 : Int).toNat * 9).1, (p20.1, p20.2 + (x1.2 : Int).toNat * 9).2 + 4).2 + 3)) rfl rfl hr26) ?_
    refine GQ.val trivial rfl (OV.lenSl (s := x25) rfl rfl) ?_
    refine GQ.val trivial rfl (OV.ibin (v := .int .i64 (w .i64 ((w .i64 ((w .i64 ((w .i64 (x1.1 + 1)) + (w .i64 (Int.tdiv (List.length x11 : Int) 50)))) + (w .i64 (Int.tdiv (List.length x18 : Int) 50)))) + (Sl.len x25 : Int)))) rfl rfl rfl) ?_
    refine GQ.val trivial rfl (OV.assign (v := .int .i64 (w .i64 ((w .i64 ((w .i64 ((w .i64 (x1.1 + 1)) + (w .i64 (Int.tdiv (List.length x11 : Int) 50)))) + (w .i64 (Int.tdiv (List.length x18 : Int) 50)))) + (Sl.len x25 : Int)))) rfl) ?_
    refine GQ.nil ?_
    refine GL.nil ?_
    refine GC.region ?_
    refine GL.val trivial rfl (OV.move (v := .int .i64 (w .i64 ((w .i64 ((w .i64 ((w .i64 (x1.1 + 1)) + (w .i64 (Int.tdiv (List.length x11 : Int) 50)))) + (w .i64 (Int.tdiv (List.length x18 : Int) 50)))) + (Sl.len x25 : Int)))) rfl) ?_
    refine GL.val trivial rfl (OV.move (v := slv p_l) rfl) ?_
    refine GL.val trivial rfl (OV.move (v := .int .i64 x1.2) rfl) ?_
    obtain ⟨p27, ha28, hb29, hc30, hd31, h⟩ := h
    refine GL.val trivial rfl (OV.indexAddr (s := p_l) rfl rfl rfl rfl ha28 hb29 hc30 hd31) ?_
    refine GL.val trivial rfl (OV.fieldAddr (p := (p27.1, p27.2 + (x1.2 : Int).toNat * 9)) rfl rfl) ?_
    obtain ⟨x32, hr33, h⟩ := h
    refine GL.val trivial rfl (OV.load (p := ((p27.1, p27.2 + (x1.2 : Int).toNat * 9).1, (p27.1, p27.2 + (x1.2 : Int).toNat * 9).2 + 8)) rfl rfl hr33) ?_
    refine GL.val trivial rfl (OV.move (v := .int .i64 p_most) rfl) ?_
    refine GL.val trivial rfl (OV.move (v := .int .i64 (w .i64 ((w .i64 ((w .i64 ((w .i64 (x1.1 + 1)) + (w .i64 (Int.tdiv (List.length x11 : Int) 50)))) + (w .i64 (Int.tdiv (List.length x18 : Int) 50)))) + (Sl.len x25 : Int)))) rfl) ?_
    refine GL.val trivial rfl (OV.ibin (v := .int .i64 (w .i64 (p_most - (w .i64 ((w .i64 ((w .i64 ((w .i64 (x1.1 + 1)) + (w .i64 (Int.tdiv (List.length x11 : Int) 50)))) + (w .i64 (Int.tdiv (List.length x18 : Int) 50)))) + (Sl.len x25 : Int)))))) rfl rfl rfl) ?_
    refine GL.call h trivial rfl ok_law06_exprs (vs := [slv x32, .int .i64 (w .i64 (p_most - (w .i64 ((w .i64 ((w .i64 ((w .i64 (x1.1 + 1)) + (w .i64 (Int.tdiv (List.length x11 : Int) 50)))) + (w .i64 (Int.tdiv (List.length x18 : Int) 50)))) + (Sl.len x25 : Int)))))]) rfl ?_
    rintro _ H35 ⟨r34, rfl, h⟩
    refine GL.val trivial rfl (OV.ibin (v := .int .i64 (w .i64 ((w .i64 ((w .i64 ((w .i64 ((w .i64 (x1.1 + 1)) + (w .i64 (Int.tdiv (List.length x11 : Int) 50)))) + (w .i64 (Int.tdiv (List.length x18 : Int) 50)))) + (Sl.len x25 : Int))) + r34))) rfl rfl rfl) ?_
    refine GL.val trivial rfl (OV.assign (v := .int .i64 (w .i64 ((w .i64 ((w .i64 ((w .i64 ((w .i64 (x1.1 + 1)) + (w .i64 (Int.tdiv (List.length x11 : Int) 50)))) + (w .i64 (Int.tdiv (List.length x18 : Int) 50)))) + (Sl.len x25 : Int))) + r34))) rfl) ?_
    refine GL.nil_to (fun _ _ h => h) ?_
    refine GC.region ?_
    refine GL.val trivial rfl (OV.move (v := .int .i64 x1.2) rfl) ?_
    refine GL.val trivial rfl (OV.ibin (v := .int .i64 (w .i64 (x1.2 + 1))) rfl rfl rfl) ?_
    refine GL.val trivial rfl (OV.assign (v := .int .i64 (w .i64 (x1.2 + 1))) rfl) ?_
    exact GL.jump (fun _ _ h => h) ((w .i64 ((w .i64 ((w .i64 ((w .i64 ((w .i64 (x1.1 + 1)) + (w .i64 (Int.tdiv (List.length x11 : Int) 50)))) + (w .i64 (Int.tdiv (List.length x18 : Int) 50)))) + (Sl.len x25 : Int))) + r34)), (w .i64 (x1.2 + 1))) h ⟨rfl, rfl, rfl, rfl, trivial⟩
  · replace h := And.right h hc5
    refine GC.exit_to (fun _ _ h => h) ?_
    refine GC.seq ?_
    refine GC.region ?_
    refine GL.val trivial rfl (OV.move (v := .int .i64 x1.1) rfl) ?_
    refine GL.val trivial rfl (OV.assign (v := .int .i64 x1.1) rfl) ?_
    refine GL.nil ?_
    exact GC.ret (fun _ _ hf hs => post_tmp1 rfl rfl hf hs ⟨x1.1, rfl, h⟩)

def sh_ref06_SameExpr (C : Ctx) (p_a : T_api_Expr) (p_b : T_api_Expr) (K : Bool → Heap → Prop) (H : Heap) : Prop :=
  nw (T_api_Expr.c p_a) (fun b1 H2 =>
 nw (T_api_Expr.c p_b) (fun b3 H4 =>
 ldI H4 .u8 ((b1, 0).1, (b1, 0).2 + 0) fun x5 =>
 ldI H4 .u8 ((b3, 0).1, (b3, 0).2 + 0) fun x7 =>
 jn (α := Bool) (fun b9 H17 =>
 jn (α := Bool) (fun b18 H28 =>
 jn (α := Bool) (fun b29 H39 =>
 K b29 H39)
 (fun J30 => ift b18
 (ldL H28 ((b1, 0).1, (b1, 0).2 + 8) fun x33 =>
 ldL H28 ((b3, 0).1, (b3, 0).2 + 8) fun x35 =>
 c_ref06_SameExprs C x33 x35 (fun r37 H38 =>
 J30 r37 H38) H28)
 (J30 false H28)))
 (fun J19 => ift b9
 (ldT H17 T_api_Value.c ((b1, 0).1, (b1, 0).2 + 4) fun x22 =>
 ldT H17 T_api_Value.c ((b3, 0).1, (b3, 0).2 + 4) fun x24 =>
 c_ref02_Same C x22 x24 (fun r26 H27 =>
 J19 r26 H27) H17)
 (J19 false H17)))
 (fun J10 => ift ((x5 : Int) == x7)
 (ldS H4 ((b1, 0).1, (b1, 0).2 + 3) fun x13 =>
 ldS H4 ((b3, 0).1, (b3, 0).2 + 3) fun x15 =>
 J10 (x13 == x15) H4)
 (J10 false H4))) H2) H

theorem ad_ref06_SameExpr (C : Ctx) (p_a : T_api_Expr) (p_b : T_api_Expr) (K : Bool → Heap → Prop) (H : Heap) (h : sh_ref06_SameExpr C p_a p_b K H) : c_ref06_SameExpr C p_a p_b K H := by
  refine Spec.enter Tryz.func20 rfl Tryz.ntmps20 rfl ?_
  refine GC.sub [(0, .agg (T_api_Expr.c p_a).toArray), (1, .agg (T_api_Expr.c p_b).toArray)] ⟨rfl, rfl, trivial⟩ ?_
  refine GC.seq ?_
  refine GC.region ?_
  refine GL.box (v := .agg (T_api_Expr.c p_a).toArray) (cs := T_api_Expr.c p_a) h trivial rfl rfl rfl ?_
  intro b1 H2 h
  refine GL.box (v := .agg (T_api_Expr.c p_b).toArray) (cs := T_api_Expr.c p_b) h trivial rfl rfl rfl ?_
  intro b3 H4 h
  refine GL.val trivial rfl (OV.assign (v := .bool false) rfl) ?_
  refine GL.nil ?_
  refine GC.seq ?_
  refine GC.region ?_
  refine GL.val trivial rfl (OV.fieldAddr (p := (b1, 0)) rfl rfl) ?_
  obtain ⟨x5, hr6, h⟩ := h
  refine GL.val trivial rfl (OV.load (p := ((b1, 0).1, (b1, 0).2 + 0)) rfl rfl hr6) ?_
  refine GL.val trivial rfl (OV.fieldAddr (p := (b3, 0)) rfl rfl) ?_
  obtain ⟨x7, hr8, h⟩ := h
  refine GL.val trivial rfl (OV.load (p := ((b3, 0).1, (b3, 0).2 + 0)) rfl rfl hr8) ?_
  refine GL.val trivial rfl (OV.ibin (v := .bool ((x5 : Int) == x7)) rfl rfl rfl) ?_
  refine GL.val trivial rfl (OV.move (v := .bool ((x5 : Int) == x7)) rfl) ?_
  obtain ⟨J10, h, hR11⟩ := h
  refine GL.cut (α := Bool) 6 J10 (fun b9 => [(16, .bool b9), (2, pv (some (b1, 0))), (3, pv (some (b3, 0)))]) ?_ ?_
  · rcases Bool.eq_false_or_eq_true ((x5 : Int) == x7) with hc12 | hc12
    · skip
      replace h := And.left h hc12
      refine GL.val ⟨_, _, rfl, rfl, hc12⟩ rfl (OV.fieldAddr (p := (b1, 0)) rfl rfl) ?_
      obtain ⟨x13, hr14, h⟩ := h
      refine GL.val ⟨_, _, rfl, rfl, hc12⟩ rfl (OV.load (p := ((b1, 0).1, (b1, 0).2 + 3)) rfl rfl hr14) ?_
      refine GL.val ⟨_, _, rfl, rfl, hc12⟩ rfl (OV.fieldAddr (p := (b3, 0)) rfl rfl) ?_
      obtain ⟨x15, hr16, h⟩ := h
      refine GL.val ⟨_, _, rfl, rfl, hc12⟩ rfl (OV.load (p := ((b3, 0).1, (b3, 0).2 + 3)) rfl rfl hr16) ?_
      refine GL.val ⟨_, _, rfl, rfl, hc12⟩ rfl (OV.sbin (a := x13) (b := x15) (v := .bool (x13 == x15)) rfl rfl rfl) ?_
      refine GL.val trivial rfl (OV.pickT (b := (x5 : Int) == x7) (v := .bool (x13 == x15)) rfl hc12 rfl) ?_
      exact GL.jump (fun _ _ h => h) (x13 == x15) h ⟨rfl, rfl, rfl, trivial⟩
    · skip
      replace h := And.right h hc12
      refine GL.skip ⟨_, rfl, .inl ⟨_, rfl, hc12⟩⟩ rfl ?_
      refine GL.skip ⟨_, rfl, .inl ⟨_, rfl, hc12⟩⟩ rfl ?_
      refine GL.skip ⟨_, rfl, .inl ⟨_, rfl, hc12⟩⟩ rfl ?_
      refine GL.skip ⟨_, rfl, .inl ⟨_, rfl, hc12⟩⟩ rfl ?_
      refine GL.skip ⟨_, rfl, .inl ⟨_, rfl, hc12⟩⟩ rfl ?_
      refine GL.val trivial rfl (OV.pickF (b := (x5 : Int) == x7) (v := .bool false) rfl hc12 rfl) ?_
      exact GL.jump (fun _ _ h => h) false h ⟨rfl, rfl, rfl, trivial⟩
  intro b9 H17 h
  replace h := hR11 b9 H17 h
  refine GL.val trivial rfl (OV.move (v := .bool b9) rfl) ?_
  obtain ⟨J19, h, hR20⟩ := h
  refine GL.cut (α := Bool) 6 J19 (fun b18 => [(23, .bool b18), (2, pv (some (b1, 0))), (3, pv (some (b3, 0)))]) ?_ ?_
  · rcases Bool.eq_false_or_eq_true b9 with hc21 | hc21
    · skip
      replace h := And.left h hc21
      refine GL.val ⟨_, _, rfl, rfl, hc21⟩ rfl (OV.fieldAddr (p := (b1, 0)) rfl rfl) ?_
      obtain ⟨x22, hr23, h⟩ := h
      refine GL.val ⟨_, _, rfl, rfl, hc21⟩ rfl (OV.loadT (p := ((b1, 0).1, (b1, 0).2 + 4)) (cs := T_api_Value.c x22) rfl rfl rfl hr23) ?_
      refine GL.val ⟨_, _, rfl, rfl, hc21⟩ rfl (OV.fieldAddr (p := (b3, 0)) rfl rfl) ?_
      obtain ⟨x24, hr25, h⟩ := h
      refine GL.val ⟨_, _, rfl, rfl, hc21⟩ rfl (OV.loadT (p := ((b3, 0).1, (b3, 0).2 + 4)) (cs := T_api_Value.c x24) rfl rfl rfl hr25) ?_
      refine GL.call h ⟨_, _, rfl, rfl, hc21⟩ rfl ok_ref02_Same (vs := [.agg (T_api_Value.c x22).toArray, .agg (T_api_Value.c x24).toArray]) rfl ?_
      rintro _ H27 ⟨r26, rfl, h⟩
      refine GL.val trivial rfl (OV.pickT (b := b9) (v := .bool r26) rfl hc21 rfl) ?_
      exact GL.jump (fun _ _ h => h) r26 h ⟨rfl, rfl, rfl, trivial⟩
    · skip
      replace h := And.right h hc21
      refine GL.skip ⟨_, rfl, .inl ⟨_, rfl, hc21⟩⟩ rfl ?_
      refine GL.skip ⟨_, rfl, .inl ⟨_, rfl, hc21⟩⟩ rfl ?_
      refine GL.skip ⟨_, rfl, .inl ⟨_, rfl, hc21⟩⟩ rfl ?_
      refine GL.skip ⟨_, rfl, .inl ⟨_, rfl, hc21⟩⟩ rfl ?_
      refine GL.skip ⟨_, rfl, .inl ⟨_, rfl, hc21⟩⟩ rfl ?_
      refine GL.val trivial rfl (OV.pickF (b := b9) (v := .bool false) rfl hc21 rfl) ?_
      exact GL.jump (fun _ _ h => h) false h ⟨rfl, rfl, rfl, trivial⟩
  intro b18 H28 h
  replace h := hR20 b18 H28 h
  refine GL.val trivial rfl (OV.move (v := .bool b18) rfl) ?_
  obtain ⟨J30, h, hR31⟩ := h
  refine GL.cut (α := Bool) 6 J30 (fun b29 => [(30, .bool b29)]) ?_ ?_
  · rcases Bool.eq_false_or_eq_true b18 with hc32 | hc32
    · skip
      replace h := And.left h hc32
      refine GL.val ⟨_, _, rfl, rfl, hc32⟩ rfl (OV.fieldAddr (p := (b1, 0)) rfl rfl) ?_
      obtain ⟨x33, hr34, h⟩ := h
      refine GL.val ⟨_, _, rfl, rfl, hc32⟩ rfl (OV.load (p := ((b1, 0).1, (b1, 0).2 + 8)) rfl rfl hr34) ?_
      refine GL.val ⟨_, _, rfl, rfl, hc32⟩ rfl (OV.fieldAddr (p := (b3, 0)) rfl rfl) ?_
      obtain ⟨x35, hr36, h⟩ := h
      refine GL.val ⟨_, _, rfl, rfl, hc32⟩ rfl (OV.load (p := ((b3, 0).1, (b3, 0).2 + 8)) rfl rfl hr36) ?_
      refine GL.call h ⟨_, _, rfl, rfl, hc32⟩ rfl ok_ref06_SameExprs (vs := [slv x33, slv x35]) rfl ?_
      rintro _ H38 ⟨r37, rfl, h⟩
      refine GL.val trivial rfl (OV.pickT (b := b18) (v := .bool r37) rfl hc32 rfl) ?_
      exact GL.jump (fun _ _ h => h) r37 h ⟨rfl, trivial⟩
    · skip
      replace h := And.right h hc32
      refine GL.skip ⟨_, rfl, .inl ⟨_, rfl, hc32⟩⟩ rfl ?_
      refine GL.skip ⟨_, rfl, .inl ⟨_, rfl, hc32⟩⟩ rfl ?_
      refine GL.skip ⟨_, rfl, .inl ⟨_, rfl, hc32⟩⟩ rfl ?_
      refine GL.skip ⟨_, rfl, .inl ⟨_, rfl, hc32⟩⟩ rfl ?_
      refine GL.skip ⟨_, rfl, .inl ⟨_, rfl, hc32⟩⟩ rfl ?_
      refine GL.val trivial rfl (OV.pickF (b := b18) (v := .bool false) rfl hc32 rfl) ?_
      exact GL.jump (fun _ _ h => h) false h ⟨rfl, trivial⟩
  intro b29 H39 h
  replace h := hR31 b29 H39 h
  refine GL.val trivial rfl (OV.assign (v := .bool b29) rfl) ?_
  refine GL.nil ?_
  exact GC.ret (fun _ _ hf hs => post_tmp1 rfl rfl hf hs ⟨b29, rfl, h⟩)

def sh_law06_fields (C : Ctx) (p_l : Sl) (p_most : Int) (K : Int → Heap → Prop) (H : Heap) : Prop :=
  lp (α := Int × Int) (0, 0) H (fun x1 J2 H3 =>
 ift ((decide ((x1.2 : Int) < (Sl.len p_l : Int))) && (decide ((x1.1 : Int) < p_most)))
 (dr H3 fun Hs6 =>
 ixa p_l x1.2 fun p8 =>
 ldS Hs6 ((p8.1, p8.2 + (x1.2 : Int).toNat * 3).1, (p8.1, p8.2 + (x1.2 : Int).toNat * 3).2 + 0) fun x13 =>
 ixa p_l x1.2 fun p15 =>
 ldT Hs6 T_api_Type.c ((p15.1, p15.2 + (x1.2 : Int).toNat * 3).1, (p15.1, p15.2 + (x1.2 : Int).toNat * 3).2 + 1) fun x20 =>
 nw ((T_api_Type.c x20) ++ []) (fun b23 H24 =>
 Heap.le Hs6 H24 ∧
 c_law06_types C (Sl.of (some (b23, 0)) 1 1) (w .i64 (p_most - x1.1)) (fun r26 H27 =>
 Heap.le Hs6 H27 ∧
 J2 ((w .i64 ((w .i64 (x1.1 + (w .i64 (Int.tdiv (List.length x13 : Int) 50)))) + r26)), (w .i64 (x1.2 + 1))) H27) H24) H3)
 (K x1.1 H3))

theorem ad_law06_fields (C : Ctx) (p_l : Sl) (p_most : Int) (K : Int → Heap → Prop) (H : Heap) (h : sh_law06_fields C p_l p_most K H) : c_law06_fields C p_l p_most K H := by
  refine Spec.enter Tryz.func21 rfl Tryz.ntmps21 rfl ?_
  refine GC.sub [(0, slv p_l), (1, .int .i64 p_most)] ⟨rfl, rfl, trivial⟩ ?_
  refine GC.seq ?_
  refine GC.region ?_
  refine GL.val trivial rfl (OV.assign (v := .int .i64 0) rfl) ?_
  refine GL.nil ?_
  refine GC.seq ?_
  refine GC.region ?_
  refine GL.val trivial rfl (OV.assign (v := .int .i64 0) rfl) ?_
  refine GL.nil ?_
  refine GC.seq ?_
  refine GC.seq ?_
  refine GC.region ?_
  refine GL.val trivial rfl (OV.assign (v := .int .i64 0) rfl) ?_
  refine GL.nil ?_
  refine GC.block ?_
  refine GC.loop (α := Int × Int) h (fun x1 => [(5, .int .i64 x1.1), (6, .int .i64 x1.2), (0, slv p_l), (1, .int .i64 p_most)]) ⟨rfl, rfl, rfl, rfl, trivial⟩ ?_
  intro x1 H3 J2 h
  refine GC.seq ?_
  refine GC.seq ?_
  refine GC.region ?_
  refine GL.val trivial rfl (OV.move (v := .int .i64 x1.2) rfl) ?_
  refine GL.val trivial rfl (OV.move (v := slv p_l) rfl) ?_
  refine GL.val trivial rfl (OV.lenSl (s := p_l) rfl rfl) ?_
  refine GL.val trivial rfl (OV.ibin (v := .bool (decide ((x1.2 : Int) < (Sl.len p_l : Int)))) rfl rfl rfl) ?_
  refine GL.val trivial rfl (OV.move (v := .bool (decide ((x1.2 : Int) < (Sl.len p_l : Int)))) rfl) ?_
  refine GL.cut0 4 [(15, .bool ((decide ((x1.2 : Int) < (Sl.len p_l : Int))) && (decide ((x1.1 : Int) < p_most)))), (0, slv p_l), (1, .int .i64 p_most), (5, .int .i64 x1.1), (6, .int .i64 x1.2)] ?_ ?_
  · rcases Bool.eq_false_or_eq_true (decide ((x1.2 : Int) < (Sl.len p_l : Int))) with hc4 | hc4
    · skip
      refine GL.val ⟨_, _, rfl, rfl, hc4⟩ rfl (OV.move (v := .int .i64 x1.1) rfl) ?_
      refine GL.val ⟨_, _, rfl, rfl, hc4⟩ rfl (OV.move (v := .int .i64 p_most) rfl) ?_
      refine GL.val ⟨_, _, rfl, rfl, hc4⟩ rfl (OV.ibin (v := .bool (decide ((x1.1 : Int) < p_most))) rfl rfl rfl) ?_
      refine GL.val trivial rfl (OV.pickT (b := decide ((x1.2 : Int) < (Sl.len p_l : Int))) (v := .bool (decide ((x1.1 : Int) < p_most))) rfl hc4 rfl) ?_
      exact GL.jump0 (fun _ _ h => h) () rfl ⟨(by rw [hc4]; rfl), rfl, rfl, rfl, rfl, trivial⟩
    · skip
      refine GL.skip ⟨_, rfl, .inl ⟨_, rfl, hc4⟩⟩ rfl ?_
      refine GL.skip ⟨_, rfl, .inl ⟨_, rfl, hc4⟩⟩ rfl ?_
      refine GL.skip ⟨_, rfl, .inl ⟨_, rfl, hc4⟩⟩ rfl ?_
      refine GL.val trivial rfl (OV.pickF (b := decide ((x1.2 : Int) < (Sl.len p_l : Int))) (v := .bool false) rfl hc4 rfl) ?_
      exact GL.jump0 (fun _ _ h => h) () rfl ⟨(by rw [hc4]; rfl), rfl, rfl, rfl, rfl, trivial⟩
  refine GL.nil ?_
  refine GC.cond (b := (decide ((x1.2 : Int) < (Sl.len p_l : Int))) && (decide ((x1.1 : Int) < p_most))) rfl (fun hc5 => ?_) (fun hc5 => ?_)
  · replace h := And.left h hc5
    refine GC.skip ?_
    refine GC.seq ?_
    refine GC.block ?_
    obtain ⟨Hs6, hle7, h⟩ := h
    refine GC.any (Hs := Hs6) (by kernel_rfl) hle7 ?_
    refine GA.take 0 rfl (by kernel_rfl) (by kernel_rfl) (by kernel_rfl) (fun _ _ _ h => False.elim h) trivial rfl (OV.move (v := .int .i64 x1.1) rfl) ?_
    refine GA.take 1 rfl (by kernel_rfl) (by kernel_rfl) (by kernel_rfl) (fun _ _ _ h => False.elim h) trivial rfl (OV.move (v := slv p_l) rfl) ?_
    refine GA.take 2 rfl (by kernel_rfl) (by kernel_rfl) (by kernel_rfl) (fun _ _ _ h => False.elim h) trivial rfl (OV.move (v := .int .i64 x1.2) rfl) ?_
    obtain ⟨p8, ha9, hb10, hc11, hd12, h⟩ := h
    refine GA.take 3 rfl (by kernel_rfl) (by kernel_rfl) (by kernel_rfl) (fun _ _ _ h => False.elim h) trivial rfl (OV.indexAddr (s := p_l) rfl rfl rfl rfl ha9 hb10 hc11 hd12) ?_
    refine GA.take 4 rfl (by kernel_rfl) (by kernel_rfl) (by kernel_rfl) (fun _ _ _ h => False.elim h) trivial rfl (OV.fieldAddr (p := (p8.1, p8.2 + (x1.2 : Int).toNat * 3)) rfl rfl) ?_
    obtain ⟨x13, hr14, h⟩ := h
    refine GA.take 5 rfl (by kernel_rfl) (by kernel_rfl) (by kernel_rfl) (fun _ _ _ h => False.elim h) trivial rfl (OV.load (p := ((p8.1, p8.2 + (x1.2 : Int).toNat * 3).1, (p8.1, p8.2 + (x1.2 : Int).toNat * 3).2 + 0)) rfl rfl hr14) ?_
    refine GA.take 6 rfl (by kernel_rfl) (by kernel_rfl) (by kernel_rfl) (fun _ _ _ h => False.elim h) trivial rfl (OV.lenStr (s := x13) rfl rfl) ?_
    refine GA.take 7 rfl (by kernel_rfl) (by kernel_rfl) (by kernel_rfl) (fun _ _ _ h => False.elim h) trivial rfl (OV.quo rfl rfl (by decide)) ?_
    refine GA.take 8 rfl (by kernel_rfl) (by kernel_rfl) (by kernel_rfl) (fun _ _ _ h => False.elim h) trivial rfl (OV.ibin (v := .int .i64 (w .i64 (x1.1 + (w .i64 (Int.tdiv (List.length x13 : Int) 50))))) rfl rfl rfl) ?_
    refine GA.take 9 rfl (by kernel_rfl) (by kernel_rfl) (by kernel_rfl) (fun _ _ _ h => False.elim h) trivial rfl (OV.move (v := slv p_l) rfl) ?_
    refine GA.take 10 rfl (by kernel_rfl) (by kernel_rfl) (by kernel_rfl) (fun _ _ _ h => False.elim h) trivial rfl (OV.move (v := .int .i64 x1.2) rfl) ?_
    obtain ⟨p15, ha16, hb17, hc18, hd19, h⟩ := h
    refine GA.take 11 rfl (by kernel_rfl) (by kernel_rfl) (by kernel_rfl) (fun _ _ _ h => False.elim h) trivial rfl (OV.indexAddr (s := p_l) rfl rfl rfl rfl ha16 hb17 hc18 hd19) ?_
    refine GA.take 12 rfl (by kernel_rfl) (by kernel_rfl) (by kernel_rfl) (fun _ _ _ h => False.elim h) trivial rfl (OV.fieldAddr (p := (p15.1, p15.2 + (x1.2 : Int).toNat * 3)) rfl rfl) ?_
    obtain ⟨x20, hr21, h⟩ := h
    refine GA.take 13 rfl (by kernel_rfl) (by kernel_rfl) (by kernel_rfl) (fun _ _ _ h => False.elim h) trivial rfl (OV.loadT (p := ((p15.1, p15.2 + (x1.2 : Int).toNat * 3).1, (p15.1, p15.2 + (x1.2 : Int).toNat * 3).2 + 1)) (cs := T_api_Type.c x20) rfl rfl rfl hr21) ?_
    refine GA.take 15 rfl (by kernel_rfl) (by kernel_rfl) (by kernel_rfl) (fun _ _ _ h => False.elim h) trivial rfl (OV.move (v := .int .i64 p_most) rfl) ?_
    refine GA.take 16 rfl (by kernel_rfl) (by kernel_rfl) (by kernel_rfl) (fun _ _ _ h => False.elim h) trivial rfl (OV.move (v := .int .i64 x1.1) rfl) ?_
    refine GA.take 17 rfl (by kernel_rfl) (by kernel_rfl) (by kernel_rfl) (fun _ _ _ h => False.elim h) trivial rfl (OV.ibin (v := .int .i64 (w .i64 (p_most - x1.1))) rfl rfl rfl) ?_
    refine GA.eff 14 rfl (by kernel_rfl) ?_
    refine GL.buildSlice (cs := (T_api_Type.c x20) ++ []) h trivial rfl (vs := [(0, .agg (T_api_Type.c x20).toArray)]) rfl ⟨75, fun _ => by kernel_rfl⟩ ?_
    intro b23 H24 h
    obtain ⟨hle22, h⟩ := h
    refine GA.back hle22 ?_
    refine GA.eff 18 rfl (by kernel_rfl) ?_
    refine GL.call h trivial rfl ok_law06_types (vs := [slv (Sl.of (some (b23, 0)) 1 1), .int .i64 (w .i64 (p_most - x1.1))]) rfl ?_
    rintro _ H27 ⟨r26, rfl, h⟩
    obtain ⟨hle25, h⟩ := h
    refine GA.back hle25 ?_
    refine GA.take 19 rfl (by kernel_rfl) (by kernel_rfl) (by kernel_rfl) (fun _ _ _ h => False.elim h) trivial rfl (OV.ibin (v := .int .i64 (w .i64 ((w .i64 (x1.1 + (w .i64 (Int.tdiv (List.length x13 : Int) 50)))) + r26))) rfl rfl rfl) ?_
    refine GA.take 20 rfl (by kernel_rfl) (by kernel_rfl) (by kernel_rfl) (fun _ _ _ h => False.elim h) trivial rfl (OV.assign (v := .int .i64 (w .i64 ((w .i64 (x1.1 + (w .i64 (Int.tdiv (List.length x13 : Int) 50)))) + r26))) rfl) ?_
    refine GA.done (by kernel_rfl) ?_
    refine GL.nil_to (fun _ _ h => h) ?_
    refine GC.region ?_
    refine GL.val trivial rfl (OV.move (v := .int .i64 x1.2) rfl) ?_
    refine GL.val trivial rfl (OV.ibin (v := .int .i64 (w .i64 (x1.2 + 1))) rfl rfl rfl) ?_
    refine GL.val trivial rfl (OV.assign (v := .int .i64 (w .i64 (x1.2 + 1))) rfl) ?_
    exact GL.jump (fun _ _ h => h) ((w .i64 ((w .i64 (x1.1 + (w .i64 (Int.tdiv (List.length x13 : Int) 50)))) + r26)), (w .i64 (x1.2 + 1))) h ⟨rfl, rfl, rfl, rfl, trivial⟩
  · replace h := And.right h hc5
    refine GC.exit_to (fun _ _ h => h) ?_
    refine GC.seq ?_
    refine GC.region ?_
    refine GL.val trivial rfl (OV.move (v := .int .i64 x1.1) rfl) ?_
    refine GL.val trivial rfl (OV.assign (v := .int .i64 x1.1) rfl) ?_
    refine GL.nil ?_
    exact GC.ret (fun _ _ hf hs => post_tmp1 rfl rfl hf hs ⟨x1.1, rfl, h⟩)

def sh_law06_body (C : Ctx) (p_l : Sl) (p_most : Int) (K : Int → Heap → Prop) (H : Heap) : Prop :=
  lp (α := Int × Int) (0, 0) H (fun x1 J2 H3 =>
 ift ((decide ((x1.2 : Int) < (Sl.len p_l : Int))) && (decide ((x1.1 : Int) < p_most)))
 (ixa p_l x1.2 fun p6 =>
 ldS H3 ((p6.1, p6.2 + (x1.2 : Int).toNat * 5).1, (p6.1, p6.2 + (x1.2 : Int).toNat * 5).2 + 3) fun x11 =>
 ixa p_l x1.2 fun p13 =>
 ldL H3 ((p13.1, p13.2 + (x1.2 : Int).toNat * 5).1, (p13.1, p13.2 + (x1.2 : Int).toNat * 5).2 + 4) fun x18 =>
 c_law06_exprs C x18 (w .i64 (p_most - (w .i64 ((w .i64 (x1.1 + 1)) + (w .i64 (Int.tdiv (List.length x11 : Int) 50)))))) (fun r20 H21 =>
 J2 ((w .i64 ((w .i64 ((w .i64 (x1.1 + 1)) + (w .i64 (Int.tdiv (List.length x11 : Int) 50)))) + r20)), (w .i64 (x1.2 + 1))) H21) H3)
 (K x1.1 H3))

theorem ad_law06_body (C : Ctx) (p_l : Sl) (p_most : Int) (K : Int → Heap → Prop) (H : Heap) (h : sh_law06_body C p_l p_most K H) : c_law06_body C p_l p_most K H := by
  refine Spec.enter Tryz.func22 rfl Tryz.ntmps22 rfl ?_
  refine GC.sub [(0, slv p_l), (1, .int .i64 p_most)] ⟨rfl, rfl, trivial⟩ ?_
  refine GC.seq ?_
  refine GC.region ?_
  refine GL.val trivial rfl (OV.assign (v := .int .i64 0) rfl) ?_
  refine GL.nil ?_
  refine GC.seq ?_
  refine GC.region ?_
  refine GL.val trivial rfl (OV.assign (v := .int .i64 0) rfl) ?_
  refine GL.nil ?_
  refine GC.seq ?_
  refine GC.seq ?_
  refine GC.region ?_
  refine GL.val trivial rfl (OV.assign (v := .int .i64 0) rfl) ?_
  refine GL.nil ?_
  refine GC.block ?_
  refine GC.loop (α := Int × Int) h (fun x1 => [(5, .int .i64 x1.1), (6, .int .i64 x1.2), (0, slv p_l), (1, .int .i64 p_most)]) ⟨rfl, rfl, rfl, rfl, trivial⟩ ?_
  intro x1 H3 J2 h
  refine GC.seq ?_
  refine GC.seq ?_
  refine GC.region ?_
  refine GL.val trivial rfl (OV.move (v := .int .i64 x1.2) rfl) ?_
  refine GL.val trivial rfl (OV.move (v := slv p_l) rfl) ?_
  refine GL.val trivial rfl (OV.lenSl (s := p_l) rfl rfl) ?_
  refine GL.val trivial rfl (OV.ibin (v := .bool (decide ((x1.2 : Int) < (Sl.len p_l : Int)))) rfl rfl rfl) ?_
  refine GL.val trivial rfl (OV.move (v := .bool (decide ((x1.2 : Int) < (Sl.len p_l : Int)))) rfl) ?_
  refine GL.cut0 4 [(15, .bool ((decide ((x1.2 : Int) < (Sl.len p_l : Int))) && (decide ((x1.1 : Int) < p_most)))), (0, slv p_l), (1, .int .i64 p_most), (5, .int .i64 x1.1), (6, .int .i64 x1.2)] ?_ ?_
  · rcases Bool.eq_false_or_eq_true (decide ((x1.2 : Int) < (Sl.len p_l : Int))) with hc4 | hc4
    · skip
      refine GL.val ⟨_, _, rfl, rfl, hc4⟩ rfl (OV.move (v := .int .i64 x1.1) rfl) ?_
      refine GL.val ⟨_, _, rfl, rfl, hc4⟩ rfl (OV.move (v := .int .i64 p_most) rfl) ?_
      refine GL.val ⟨_, _, rfl, rfl, hc4⟩ rfl (OV.ibin (v := .bool (decide ((x1.1 : Int) < p_most))) rfl rfl rfl) ?_
      refine GL.val trivial rfl (OV.pickT (b := decide ((x1.2 : Int) < (Sl.len p_l : Int))) (v := .bool (decide ((x1.1 : Int) < p_most))) rfl hc4 rfl) ?_
      exact GL.jump0 (fun _ _ h => h) () rfl ⟨(by rw [hc4]; rfl), rfl, rfl, rfl, rfl, trivial⟩
    · skip
      refine GL.skip ⟨_, rfl, .inl ⟨_, rfl, hc4⟩⟩ rfl ?_
      refine GL.skip ⟨_, rfl, .inl ⟨_, rfl, hc4⟩⟩ rfl ?_
      refine GL.skip ⟨_, rfl, .inl ⟨_, rfl, hc4⟩⟩ rfl ?_
      refine GL.val trivial rfl (OV.pickF (b := decide ((x1.2 : Int) < (Sl.len p_l : Int))) (v := .bool false) rfl hc4 rfl) ?_
      exact GL.jump0 (fun _ _ h => h) () rfl ⟨(by rw [hc4]; rfl), rfl, rfl, rfl, rfl, trivial⟩
  refine GL.nil ?_
  refine GC.cond (b := (decide ((x1.2 : Int) < (Sl.len p_l : Int))) && (decide ((x1.1 : Int) < p_most))) rfl (fun hc5 => ?_) (fun hc5 => ?_)
  · replace h := And.left h hc5
    refine GC.skip ?_
    refine GC.seq ?_
    refine GC.block ?_
    refine GC.seq ?_
    refine GC.region ?_
    refine GL.val trivial rfl (OV.move (v := .int .i64 x1.1) rfl) ?_
    refine GL.val trivial rfl (OV.ibin (v := .int .i64 (w .i64 (x1.1 + 1))) rfl rfl rfl) ?_
    refine GL.val trivial rfl (OV.move (v := slv p_l) rfl) ?_
    refine GL.val trivial rfl (OV.move (v := .int .i64 x1.2) rfl) ?_
    obtain ⟨p6, ha7, hb8, hc9, hd10, h⟩ := h
    refine GL.val trivial rfl (OV.indexAddr (s := p_l) rfl rfl rfl rfl ha7 hb8 hc9 hd10) ?_
    refine GL.val trivial rfl (OV.fieldAddr (p := (p6.1, p6.2 + (x1.2 : Int).toNat * 5)) rfl rfl) ?_
    obtain ⟨x11, hr12, h⟩ := h
    refine GL.val trivial rfl (OV.load (p := ((p6.1, p6.2 + (x1.2 : Int).toNat * 5).1, (p6.1, p6.2 + (x1.2 : Int).toNat * 5).2 + 3)) rfl rfl hr12) ?_
    refine GL.val trivial rfl (OV.lenStr (s := x11) rfl rfl) ?_
    refine GL.val trivial rfl (OV.quo rfl rfl (by decide)) ?_
    refine GL.val trivial rfl (OV.ibin (v := .int .i64 (w .i64 ((w .i64 (x1.1 + 1)) + (w .i64 (Int.tdiv (List.length x11 : Int) 50))))) rfl rfl rfl) ?_
    refine GL.val trivial rfl (OV.assign (v := .int .i64 (w .i64 ((w .i64 (x1.1 + 1)) + (w .i64 (Int.tdiv (List.length x11 : Int) 50))))) rfl) ?_
    refine GL.nil ?_
    refine GC.region ?_
    refine GL.val trivial rfl (OV.move (v := .int .i64 (w .i64 ((w .i64 (x1.1 + 1)) + (w .i64 (Int.tdiv (List.length x11 : Int) 50))))) rfl) ?_
    refine GL.val trivial rfl (OV.move (v := slv p_l) rfl) ?_
    refine GL.val trivial rfl (OV.move (v := .int .i64 x1.2) rfl) ?_
    obtain ⟨p13, ha14, hb15, hc16, hd17, h⟩ := h
    refine GL.val trivial rfl (OV.indexAddr (s := p_l) rfl rfl rfl rfl ha14 hb15 hc16 hd17) ?_
    refine GL.val trivial rfl (OV.fieldAddr (p := (p13.1, p13.2 + (x1.2 : Int).toNat * 5)) rfl rfl) ?_
    obtain ⟨x18, hr19, h⟩ := h
    refine GL.val trivial rfl (OV.load (p := ((p13.1, p13.2 + (x1.2 : Int).toNat * 5).1, (p13.1, p13.2 + (x1.2 : Int).toNat * 5).2 + 4)) rfl rfl hr19) ?_
    refine GL.val trivial rfl (OV.move (v := .int .i64 p_most) rfl) ?_
    refine GL.val trivial rfl (OV.move (v := .int .i64 (w .i64 ((w .i64 (x1.1 + 1)) + (w .i64 (Int.tdiv (List.length x11 : Int) 50))))) rfl) ?_
    refine GL.val trivial rfl (OV.ibin (v := .int .i64 (w .i64 (p_most - (w .i64 ((w .i64 (x1.1 + 1)) + (w .i64 (Int.tdiv (List.length x11 : Int) 50))))))) rfl rfl rfl) ?_
    refine GL.call h trivial rfl ok_law06_exprs (vs := [slv x18, .int .i64 (w .i64 (p_most - (w .i64 ((w .i64 (x1.1 + 1)) + (w .i64 (Int.tdiv (List.length x11 : Int) 50))))))]) rfl ?_
    rintro _ H21 ⟨r20, rfl, h⟩
    refine GL.val trivial rfl (OV.ibin (v := .int .i64 (w .i64 ((w .i64 ((w .i64 (x1.1 + 1)) + (w .i64 (Int.tdiv (List.length x11 : Int) 50)))) + r20))) rfl rfl rfl) ?_
    refine GL.val trivial rfl (OV.assign (v := .int .i64 (w .i64 ((w .i64 ((w .i64 (x1.1 + 1)) + (w .i64 (Int.tdiv (List.length x11 : Int) 50)))) + r20))) rfl) ?_
    refine GL.nil_to (fun _ _ h => h) ?_
    refine GC.region ?_
    refine GL.val trivial rfl (OV.move (v := .int .i64 x1.2) rfl) ?_
    refine GL.val trivial rfl (OV.ibin (v := .int .i64 (w .i64 (x1.2 + 1))) rfl rfl rfl) ?_
    refine GL.val trivial rfl (OV.assign (v := .int .i64 (w .i64 (x1.2 + 1))) rfl) ?_
    exact GL.jump (fun _ _ h => h) ((w .i64 ((w .i64 ((w .i64 (x1.1 + 1)) + (w .i64 (Int.tdiv (List.length x11 : Int) 50)))) + r20)), (w .i64 (x1.2 + 1))) h ⟨rfl, rfl, rfl, rfl, trivial⟩
  · replace h := And.right h hc5
    refine GC.exit_to (fun _ _ h => h) ?_
    refine GC.seq ?_
    refine GC.region ?_
    refine GL.val trivial rfl (OV.move (v := .int .i64 x1.1) rfl) ?_
    refine GL.val trivial rfl (OV.assign (v := .int .i64 x1.1) rfl) ?_
    refine GL.nil ?_
    exact GC.ret (fun _ _ hf hs => post_tmp1 rfl rfl hf hs ⟨x1.1, rfl, h⟩)

def sh_slices_EqualFunc_api_Import_api_Import_api_Import_api_Import (C : Ctx) (p_s1 : Sl) (p_s2 : Sl) (p_eq : Value) (K : Bool → Heap → Prop) (H : Heap) : Prop :=
  ift (((Sl.len p_s1 : Int) : Int) != (Sl.len p_s2 : Int))
 (K false H)
 (lp (α := Int) 0 H (fun x2 J3 H4 =>
 ift (decide ((x2 : Int) < (Sl.len p_s1 : Int)))
 (ixa p_s1 x2 fun p6 =>
 ldT H4 T_api_Import.c (p6.1, p6.2 + (x2 : Int).toNat * 3) fun x11 =>
 nw (T_api_Import.c T_api_Import.zero) (fun b13 H14 =>
 stT (b13, 0) (T_api_Import.c x11) (fun H15 =>
 ixa p_s2 x2 fun p16 =>
 ldT H15 T_api_Import.c (p16.1, p16.2 + (x2 : Int).toNat * 3) fun x21 =>
 nw (T_api_Import.c T_api_Import.zero) (fun b23 H24 =>
 stT (b23, 0) (T_api_Import.c x21) (fun H25 =>
 ldT H25 T_api_Import.c (b13, 0) fun x26 =>
 ldT H25 T_api_Import.c (b23, 0) fun x28 =>
 callU Tryz.prog C p_eq [.agg (T_api_Import.c x26).toArray, .agg (T_api_Import.c x28).toArray] H25 (fun v H31 => ∃ (r30 : Bool), v = .bool r30 ∧
 ift (!r30)
 (K false H31)
 (J3 (w .i64 (x2 + 1)) H31))) H24) H15) H14) H4)
 (K true H4)))

theorem ad_slices_EqualFunc_api_Import_api_Import_api_Import_api_Import (C : Ctx) (p_s1 : Sl) (p_s2 : Sl) (p_eq : Value) (K : Bool → Heap → Prop) (H : Heap) (h : sh_slices_EqualFunc_api_Import_api_Import_api_Import_api_Import C p_s1 p_s2 p_eq K H) : c_slices_EqualFunc_api_Import_api_Import_api_Import_api_Import C p_s1 p_s2 p_eq K H := by
  refine Spec.enter Tryz.func68 rfl Tryz.ntmps68 rfl ?_
  refine GC.sub [(0, slv p_s1), (1, slv p_s2), (2, p_eq)] ⟨rfl, rfl, rfl, trivial⟩ ?_
  refine GC.seq ?_
  refine GC.region ?_
  refine GL.val trivial rfl (OV.assign (v := .bool false) rfl) ?_
  refine GL.nil ?_
  refine GC.seq ?_
  refine GC.seq ?_
  refine GC.region ?_
  refine GL.val trivial rfl (OV.move (v := slv p_s1) rfl) ?_
  refine GL.val trivial rfl (OV.lenSl (s := p_s1) rfl rfl) ?_
  refine GL.val trivial rfl (OV.move (v := slv p_s2) rfl) ?_
  refine GL.val trivial rfl (OV.lenSl (s := p_s2) rfl rfl) ?_
  refine GL.val trivial rfl (OV.ibin (v := .bool (((Sl.len p_s1 : Int) : Int) != (Sl.len p_s2 : Int))) rfl rfl rfl) ?_
  refine GL.nil ?_
  refine GC.cond (b := ((Sl.len p_s1 : Int) : Int) != (Sl.len p_s2 : Int)) rfl (fun hc1 => ?_) (fun hc1 => ?_)
  · replace h := And.left h hc1
    refine GC.seq ?_
    refine GC.region ?_
    refine GL.val trivial rfl (OV.assign (v := .bool false) rfl) ?_
    refine GL.nil ?_
    exact GC.ret (fun _ _ hf hs => post_tmp1 rfl rfl hf hs ⟨false, rfl, h⟩)
  · replace h := And.right h hc1
    refine GC.skip ?_
    refine GC.seq ?_
    refine GC.seq ?_
    refine GC.region ?_
    refine GL.val trivial rfl (OV.move (v := slv p_s1) rfl) ?_
    refine GL.val trivial rfl (OV.lenSl (s := p_s1) rfl rfl) ?_
    refine GL.val trivial rfl (OV.move (v := .int .i64 0) rfl) ?_
    refine GL.nil ?_
    refine GC.block ?_
    refine GC.loop (α := Int) h (fun x2 => [(17, .int .i64 x2), (1, slv p_s2), (2, p_eq), (15, slv p_s1), (16, .int .i64 (Sl.len p_s1 : Int))]) ⟨rfl, rfl, rfl, rfl, rfl, trivial⟩ ?_
    intro x2 H4 J3 h
    refine GC.seq ?_
    refine GC.region ?_
    refine GL.val trivial rfl (OV.ibin (v := .bool (decide ((x2 : Int) < (Sl.len p_s1 : Int)))) rfl rfl rfl) ?_
    refine GL.nil ?_
    refine GC.seq ?_
    refine GC.cond (b := decide ((x2 : Int) < (Sl.len p_s1 : Int))) rfl (fun hc5 => ?_) (fun hc5 => ?_)
    · replace h := And.left h hc5
      refine GC.skip ?_
      refine GC.seq ?_
      refine GC.block ?_
      refine GC.seq ?_
      refine GC.region ?_
      refine GL.val trivial rfl (OV.move (v := .int .i64 x2) rfl) ?_
      obtain ⟨p6, ha7, hb8, hc9, hd10, h⟩ := h
      refine GL.val trivial rfl (OV.indexAddr (s := p_s1) rfl rfl rfl rfl ha7 hb8 hc9 hd10) ?_
      obtain ⟨x11, hr12, h⟩ := h
      refine GL.val trivial rfl (OV.loadT (p := (p6.1, p6.2 + (x2 : Int).toNat * 3)) (cs := T_api_Import.c x11) rfl rfl rfl hr12) ?_
      refine GL.alloc (cs := T_api_Import.c T_api_Import.zero) h trivial rfl rfl rfl ?_
      intro b13 H14 h
      refine GL.val trivial rfl (OV.assign (v := .int .i64 x2) rfl) ?_
      refine GL.storeT (p := (b13, 0)) (vs := T_api_Import.c x11) h trivial rfl rfl rfl rfl ?_
      intro H15 h
      refine GL.nil ?_
      refine GC.seq ?_
      refine GC.region ?_
      refine GL.val trivial rfl (OV.move (v := slv p_s2) rfl) ?_
      refine GL.val trivial rfl (OV.move (v := .int .i64 x2) rfl) ?_
      obtain ⟨p16, ha17, hb18, hc19, hd20, h⟩ := h
      refine GL.val trivial rfl (OV.indexAddr (s := p_s2) rfl rfl rfl rfl ha17 hb18 hc19 hd20) ?_
      obtain ⟨x21, hr22, h⟩ := h
      refine GL.val trivial rfl (OV.loadT (p := (p16.1, p16.2 + (x2 : Int).toNat * 3)) (cs := T_api_Import.c x21) rfl rfl rfl hr22) ?_
      refine GL.alloc (cs := T_api_Import.c T_api_Import.zero) h trivial rfl rfl rfl ?_
      intro b23 H24 h
      refine GL.storeT (p := (b23, 0)) (vs := T_api_Import.c x21) h trivial rfl rfl rfl rfl ?_
      intro H25 h
      refine GL.nil ?_
      refine GC.seq ?_
      refine GC.region ?_
      refine GL.val trivial rfl (OV.move (v := p_eq) rfl) ?_
      obtain ⟨x26, hr27, h⟩ := h
      refine GL.val trivial rfl (OV.loadT (p := (b13, 0)) (cs := T_api_Import.c x26) rfl rfl rfl hr27) ?_
      obtain ⟨x28, hr29, h⟩ := h
      refine GL.val trivial rfl (OV.loadT (p := (b23, 0)) (cs := T_api_Import.c x28) rfl rfl rfl hr29) ?_
      refine GL.callU (xv := p_eq) (vs := [.agg (T_api_Import.c x26).toArray, .agg (T_api_Import.c x28).toArray]) h trivial rfl rfl rfl ?_
      rintro _ H31 ⟨r30, rfl, h⟩
      refine GL.val trivial rfl (OV.not rfl) ?_
      refine GL.nil ?_
      refine GC.cond (b := !r30) rfl (fun hc32 => ?_) (fun hc32 => ?_)
      · replace h := And.left h hc32
        refine GC.seq ?_
        refine GC.region ?_
        refine GL.val trivial rfl (OV.assign (v := .bool false) rfl) ?_
        refine GL.nil ?_
        exact GC.ret (fun _ _ hf hs => post_tmp1 rfl rfl hf hs ⟨false, rfl, h⟩)
      · replace h := And.right h hc32
        refine GC.skip_to (fun _ _ h => h) ?_
        refine GC.region ?_
        refine GL.val trivial rfl (OV.ibin (v := .int .i64 (w .i64 (x2 + 1))) rfl rfl rfl) ?_
        refine GL.val trivial rfl (OV.move (v := .int .i64 (w .i64 (x2 + 1))) rfl) ?_
        exact GL.jump (fun _ _ h => h) (w .i64 (x2 + 1)) h ⟨rfl, rfl, rfl, rfl, rfl, trivial⟩
    · replace h := And.right h hc5
      refine GC.exit_to (fun _ _ h => h) ?_
      refine GC.seq ?_
      refine GC.region ?_
      refine GL.val trivial rfl (OV.assign (v := .bool true) rfl) ?_
      refine GL.nil ?_
      exact GC.ret (fun _ _ hf hs => post_tmp1 rfl rfl hf hs ⟨true, rfl, h⟩)

def sh_tree_Same_1 (C : Ctx) (p_x : T_api_Import) (p_y : T_api_Import) (K : Bool → Heap → Prop) (H : Heap) : Prop :=
  nw (T_api_Import.c p_x) (fun b1 H2 =>
 nw (T_api_Import.c p_y) (fun b3 H4 =>
 ldS H4 ((b1, 0).1, (b1, 0).2 + 2) fun x5 =>
 ldS H4 ((b3, 0).1, (b3, 0).2 + 2) fun x7 =>
 K (x5 == x7) H4) H2) H

theorem ad_tree_Same_1 (C : Ctx) (p_x : T_api_Import) (p_y : T_api_Import) (K : Bool → Heap → Prop) (H : Heap) (h : sh_tree_Same_1 C p_x p_y K H) : c_tree_Same_1 C p_x p_y K H := by
  refine Spec.enter Tryz.func69 rfl Tryz.ntmps69 rfl ?_
  refine GC.sub [(0, .agg (T_api_Import.c p_x).toArray), (1, .agg (T_api_Import.c p_y).toArray)] ⟨rfl, rfl, trivial⟩ ?_
  refine GC.seq ?_
  refine GC.region ?_
  refine GL.box (v := .agg (T_api_Import.c p_x).toArray) (cs := T_api_Import.c p_x) h trivial rfl rfl rfl ?_
  intro b1 H2 h
  refine GL.box (v := .agg (T_api_Import.c p_y).toArray) (cs := T_api_Import.c p_y) h trivial rfl rfl rfl ?_
  intro b3 H4 h
  refine GL.val trivial rfl (OV.assign (v := .bool false) rfl) ?_
  refine GL.nil ?_
  refine GC.seq ?_
  refine GC.region ?_
  refine GL.val trivial rfl (OV.fieldAddr (p := (b1, 0)) rfl rfl) ?_
  obtain ⟨x5, hr6, h⟩ := h
  refine GL.val trivial rfl (OV.load (p := ((b1, 0).1, (b1, 0).2 + 2)) rfl rfl hr6) ?_
  refine GL.val trivial rfl (OV.fieldAddr (p := (b3, 0)) rfl rfl) ?_
  obtain ⟨x7, hr8, h⟩ := h
  refine GL.val trivial rfl (OV.load (p := ((b3, 0).1, (b3, 0).2 + 2)) rfl rfl hr8) ?_
  refine GL.val trivial rfl (OV.sbin (a := x5) (b := x7) (v := .bool (x5 == x7)) rfl rfl rfl) ?_
  refine GL.val trivial rfl (OV.assign (v := .bool (x5 == x7)) rfl) ?_
  refine GL.nil ?_
  exact GC.ret (fun _ _ hf hs => post_tmp1 rfl rfl hf hs ⟨(x5 == x7), rfl, h⟩)

def sh_slices_EqualFunc_api_TypeDef_api_TypeDef_api_TypeDef_api_TypeDef (C : Ctx) (p_s1 : Sl) (p_s2 : Sl) (p_eq : Value) (K : Bool → Heap → Prop) (H : Heap) : Prop :=
  ift (((Sl.len p_s1 : Int) : Int) != (Sl.len p_s2 : Int))
 (K false H)
 (lp (α := Int) 0 H (fun x2 J3 H4 =>
 ift (decide ((x2 : Int) < (Sl.len p_s1 : Int)))
 (ixa p_s1 x2 fun p6 =>
 ldT H4 T_api_TypeDef.c (p6.1, p6.2 + (x2 : Int).toNat * 6) fun x11 =>
 nw (T_api_TypeDef.c T_api_TypeDef.zero) (fun b13 H14 =>
 stT (b13, 0) (T_api_TypeDef.c x11) (fun H15 =>
 ixa p_s2 x2 fun p16 =>
 ldT H15 T_api_TypeDef.c (p16.1, p16.2 + (x2 : Int).toNat * 6) fun x21 =>
 nw (T_api_TypeDef.c T_api_TypeDef.zero) (fun b23 H24 =>
 stT (b23, 0) (T_api_TypeDef.c x21) (fun H25 =>
 ldT H25 T_api_TypeDef.c (b13, 0) fun x26 =>
 ldT H25 T_api_TypeDef.c (b23, 0) fun x28 =>
 callU Tryz.prog C p_eq [.agg (T_api_TypeDef.c x26).toArray, .agg (T_api_TypeDef.c x28).toArray] H25 (fun v H31 => ∃ (r30 : Bool), v = .bool r30 ∧
 ift (!r30)
 (K false H31)
 (J3 (w .i64 (x2 + 1)) H31))) H24) H15) H14) H4)
 (K true H4)))

theorem ad_slices_EqualFunc_api_TypeDef_api_TypeDef_api_TypeDef_api_TypeDef (C : Ctx) (p_s1 : Sl) (p_s2 : Sl) (p_eq : Value) (K : Bool → Heap → Prop) (H : Heap) (h : sh_slices_EqualFunc_api_TypeDef_api_TypeDef_api_TypeDef_api_TypeDef C p_s1 p_s2 p_eq K H) : c_slices_EqualFunc_api_TypeDef_api_TypeDef_api_TypeDef_api_TypeDef C p_s1 p_s2 p_eq K H := by
  refine Spec.enter Tryz.func70 rfl Tryz.ntmps70 rfl ?_
  refine GC.sub [(0, slv p_s1), (1, slv p_s2), (2, p_eq)] ⟨rfl, rfl, rfl, trivial⟩ ?_
  refine GC.seq ?_
  refine GC.region ?_
  refine GL.val trivial rfl (OV.assign (v := .bool false) rfl) ?_
  refine GL.nil ?_
  refine GC.seq ?_
  refine GC.seq ?_
  refine GC.region ?_
  refine GL.val trivial rfl (OV.move (v := slv p_s1) rfl) ?_
  refine GL.val trivial rfl (OV.lenSl (s := p_s1) rfl rfl) ?_
  refine GL.val trivial rfl (OV.move (v := slv p_s2) rfl) ?_
  refine GL.val trivial rfl (OV.lenSl (s := p_s2) rfl rfl) ?_
  refine GL.val trivial rfl (OV.ibin (v := .bool (((Sl.len p_s1 : Int) : Int) != (Sl.len p_s2 : Int))) rfl rfl rfl) ?_
  refine GL.nil ?_
  refine GC.cond (b := ((Sl.len p_s1 : Int) : Int) != (Sl.len p_s2 : Int)) rfl (fun hc1 => ?_) (fun hc1 => ?_)
  · replace h := And.left h hc1
    refine GC.seq ?_
    refine GC.region ?_
    refine GL.val trivial rfl (OV.assign (v := .bool false) rfl) ?_
    refine GL.nil ?_
    exact GC.ret (fun _ _ hf hs => post_tmp1 rfl rfl hf hs ⟨false, rfl, h⟩)
  · replace h := And.right h hc1
    refine GC.skip ?_
    refine GC.seq ?_
    refine GC.seq ?_
    refine GC.region ?_
    refine GL.val trivial rfl (OV.move (v := slv p_s1) rfl) ?_
    refine GL.val trivial rfl (OV.lenSl (s := p_s1) rfl rfl) ?_
    refine GL.val trivial rfl (OV.move (v := .int .i64 0) rfl) ?_
    refine GL.nil ?_
    refine GC.block ?_
    refine GC.loop (α := Int) h (fun x2 => [(17, .int .i64 x2), (1, slv p_s2), (2, p_eq), (15, slv p_s1), (16, .int .i64 (Sl.len p_s1 : Int))]) ⟨rfl, rfl, rfl, rfl, rfl, trivial⟩ ?_
    intro x2 H4 J3 h
    refine GC.seq ?_
    refine GC.region ?_
    refine GL.val trivial rfl (OV.ibin (v := .bool (decide ((x2 : Int) < (Sl.len p_s1 : Int)))) rfl rfl rfl) ?_
    refine GL.nil ?_
    refine GC.seq ?_
    refine GC.cond (b := decide ((x2 : Int) < (Sl.len p_s1 : Int))) rfl (fun hc5 => ?_) (fun hc5 => ?_)
    · replace h := And.left h hc5
      refine GC.skip ?_
      refine GC.seq ?_
      refine GC.block ?_
      refine GC.seq ?_
      refine GC.region ?_
      refine GL.val trivial rfl (OV.move (v := .int .i64 x2) rfl) ?_
      obtain ⟨p6, ha7, hb8, hc9, hd10, h⟩ := h
      refine GL.val trivial rfl (OV.indexAddr (s := p_s1) rfl rfl rfl rfl ha7 hb8 hc9 hd10) ?_
      obtain ⟨x11, hr12, h⟩ := h
      refine GL.val trivial rfl (OV.loadT (p := (p6.1, p6.2 + (x2 : Int).toNat * 6)) (cs := T_api_TypeDef.c x11) rfl rfl rfl hr12) ?_
      refine GL.alloc (cs := T_api_TypeDef.c T_api_TypeDef.zero) h trivial rfl rfl rfl ?_
      intro b13 H14 h
      refine GL.val trivial rfl (OV.assign (v := .int .i64 x2) rfl) ?_
      refine GL.storeT (p := (b13, 0)) (vs := T_api_TypeDef.c x11) h trivial rfl rfl rfl rfl ?_
      intro H15 h
      refine GL.nil ?_
      refine GC.seq ?_
      refine GC.region ?_
      refine GL.val trivial rfl (OV.move (v := slv p_s2) rfl) ?_
      refine GL.val trivial rfl (OV.move (v := .int .i64 x2) rfl) ?_
      obtain ⟨p16, ha17, hb18, hc19, hd20, h⟩ := h
      refine GL.val trivial rfl (OV.indexAddr (s := p_s2) rfl rfl rfl rfl ha17 hb18 hc19 hd20) ?_
      obtain ⟨x21, hr22, h⟩ := h
      refine GL.val trivial rfl (OV.loadT (p := (p16.1, p16.2 + (x2 : Int).toNat * 6)) (cs := T_api_TypeDef.c x21) rfl rfl rfl hr22) ?_
      refine GL.alloc (cs := T_api_TypeDef.c T_api_TypeDef.zero) h trivial rfl rfl rfl ?_
      intro b23 H24 h
      refine GL.storeT (p := (b23, 0)) (vs := T_api_TypeDef.c x21) h trivial rfl rfl rfl rfl ?_
      intro H25 h
      refine GL.nil ?_
      refine GC.seq ?_
      refine GC.region ?_
      refine GL.val trivial rfl (OV.move (v := p_eq) rfl) ?_
      obtain ⟨x26, hr27, h⟩ := h
      refine GL.val trivial rfl (OV.loadT (p := (b13, 0)) (cs := T_api_TypeDef.c x26) rfl rfl rfl hr27) ?_
      obtain ⟨x28, hr29, h⟩ := h
      refine GL.val trivial rfl (OV.loadT (p := (b23, 0)) (cs := T_api_TypeDef.c x28) rfl rfl rfl hr29) ?_
      refine GL.callU (xv := p_eq) (vs := [.agg (T_api_TypeDef.c x26).toArray, .agg (T_api_TypeDef.c x28).toArray]) h trivial rfl rfl rfl ?_
      rintro _ H31 ⟨r30, rfl, h⟩
      refine GL.val trivial rfl (OV.not rfl) ?_
      refine GL.nil ?_
      refine GC.cond (b := !r30) rfl (fun hc32 => ?_) (fun hc32 => ?_)
      · replace h := And.left h hc32
        refine GC.seq ?_
        refine GC.region ?_
        refine GL.val trivial rfl (OV.assign (v := .bool false) rfl) ?_
        refine GL.nil ?_
        exact GC.ret (fun _ _ hf hs => post_tmp1 rfl rfl hf hs ⟨false, rfl, h⟩)
      · replace h := And.right h hc32
        refine GC.skip_to (fun _ _ h => h) ?_
        refine GC.region ?_
        refine GL.val trivial rfl (OV.ibin (v := .int .i64 (w .i64 (x2 + 1))) rfl rfl rfl) ?_
        refine GL.val trivial rfl (OV.move (v := .int .i64 (w .i64 (x2 + 1))) rfl) ?_
        exact GL.jump (fun _ _ h => h) (w .i64 (x2 + 1)) h ⟨rfl, rfl, rfl, rfl, rfl, trivial⟩
    · replace h := And.right h hc5
      refine GC.exit_to (fun _ _ h => h) ?_
      refine GC.seq ?_
      refine GC.region ?_
      refine GL.val trivial rfl (OV.assign (v := .bool true) rfl) ?_
      refine GL.nil ?_
      exact GC.ret (fun _ _ hf hs => post_tmp1 rfl rfl hf hs ⟨true, rfl, h⟩)

def sh_tree_Same_2 (C : Ctx) (p_x : T_api_TypeDef) (p_y : T_api_TypeDef) (K : Bool → Heap → Prop) (H : Heap) : Prop :=
  nw (T_api_TypeDef.c p_x) (fun b1 H2 =>
 nw (T_api_TypeDef.c p_y) (fun b3 H4 =>
 ldB H4 ((b1, 0).1, (b1, 0).2 + 2) fun x5 =>
 ldB H4 ((b3, 0).1, (b3, 0).2 + 2) fun x7 =>
 jn (α := Bool) (fun b9 H17 =>
 jn (α := Bool) (fun b18 H28 =>
 jn (α := Bool) (fun b29 H39 =>
 K b29 H39)
 (fun J30 => ift b18
 (ldL H28 ((b1, 0).1, (b1, 0).2 + 5) fun x33 =>
 ldL H28 ((b3, 0).1, (b3, 0).2 + 5) fun x35 =>
 c_slices_EqualFunc_api_ConsDef_api_ConsDef_api_ConsDef_api_ConsDef C x33 x35 (.func (.func 74) (List.toArray []) (List.toArray []) : Value) (fun r37 H38 =>
 J30 r37 H38) H28)
 (J30 false H28)))
 (fun J19 => ift b9
 (ldL H17 ((b1, 0).1, (b1, 0).2 + 4) fun x22 =>
 ldL H17 ((b3, 0).1, (b3, 0).2 + 4) fun x24 =>
 c_slices_Equal_string_string C x22 x24 (fun r26 H27 =>
 J19 r26 H27) H17)
 (J19 false H17)))
 (fun J10 => ift (x5 == x7)
 (ldS H4 ((b1, 0).1, (b1, 0).2 + 3) fun x13 =>
 ldS H4 ((b3, 0).1, (b3, 0).2 + 3) fun x15 =>
 J10 (x13 == x15) H4)
 (J10 false H4))) H2) H

theorem ad_tree_Same_2 (C : Ctx) (p_x : T_api_TypeDef) (p_y : T_api_TypeDef) (K : Bool → Heap → Prop) (H : Heap) (h : sh_tree_Same_2 C p_x p_y K H) : c_tree_Same_2 C p_x p_y K H := by
  refine Spec.enter Tryz.func71 rfl Tryz.ntmps71 rfl ?_
  refine GC.sub [(0, .agg (T_api_TypeDef.c p_x).toArray), (1, .agg (T_api_TypeDef.c p_y).toArray)] ⟨rfl, rfl, trivial⟩ ?_
  refine GC.seq ?_
  refine GC.region ?_
  refine GL.box (v := .agg (T_api_TypeDef.c p_x).toArray) (cs := T_api_TypeDef.c p_x) h trivial rfl rfl rfl ?_
  intro b1 H2 h
  refine GL.box (v := .agg (T_api_TypeDef.c p_y).toArray) (cs := T_api_TypeDef.c p_y) h trivial rfl rfl rfl ?_
  intro b3 H4 h
  refine GL.val trivial rfl (OV.assign (v := .bool false) rfl) ?_
  refine GL.nil ?_
  refine GC.seq ?_
  refine GC.region ?_
  refine GL.val trivial rfl (OV.fieldAddr (p := (b1, 0)) rfl rfl) ?_
  obtain ⟨x5, hr6, h⟩ := h
  refine GL.val trivial rfl (OV.load (p := ((b1, 0).1, (b1, 0).2 + 2)) rfl rfl hr6) ?_
  refine GL.val trivial rfl (OV.fieldAddr (p := (b3, 0)) rfl rfl) ?_
  obtain ⟨x7, hr8, h⟩ := h
  refine GL.val trivial rfl (OV.load (p := ((b3, 0).1, (b3, 0).2 + 2)) rfl rfl hr8) ?_
  refine GL.val trivial rfl (OV.eqlBool rfl rfl rfl) ?_
  refine GL.val trivial rfl (OV.move (v := .bool (x5 == x7)) rfl) ?_
  obtain ⟨J10, h, hR11⟩ := h
  refine GL.cut (α := Bool) 6 J10 (fun b9 => [(16, .bool b9), (2, pv (some (b1, 0))), (3, pv (some (b3, 0)))]) ?_ ?_
  · rcases Bool.eq_false_or_eq_true (x5 == x7) with hc12 | hc12
    · skip
      replace h := And.left h hc12
      refine GL.val ⟨_, _, rfl, rfl, hc12⟩ rfl (OV.fieldAddr (p := (b1, 0)) rfl rfl) ?_
      obtain ⟨x13, hr14, h⟩ := h
      refine GL.val ⟨_, _, rfl, rfl, hc12⟩ rfl (OV.load (p := ((b1, 0).1, (b1, 0).2 + 3)) rfl rfl hr14) ?_
      refine GL.val ⟨_, _, rfl, rfl, hc12⟩ rfl (OV.fieldAddr (p := (b3, 0)) rfl rfl) ?_
      obtain ⟨x15, hr16, h⟩ := h
      refine GL.val ⟨_, _, rfl, rfl, hc12⟩ rfl (OV.load (p := ((b3, 0).1, (b3, 0).2 + 3)) rfl rfl hr16) ?_
      refine GL.val ⟨_, _, rfl, rfl, hc12⟩ rfl (OV.sbin (a := x13) (b := x15) (v := .bool (x13 == x15)) rfl rfl rfl) ?_
      refine GL.val trivial rfl (OV.pickT (b := x5 == x7) (v := .bool (x13 == x15)) rfl hc12 rfl) ?_
      exact GL.jump (fun _ _ h => h) (x13 == x15) h ⟨rfl, rfl, rfl, trivial⟩
    · skip
      replace h := And.right h hc12
      refine GL.skip ⟨_, rfl, .inl ⟨_, rfl, hc12⟩⟩ rfl ?_
      refine GL.skip ⟨_, rfl, .inl ⟨_, rfl, hc12⟩⟩ rfl ?_
      refine GL.skip ⟨_, rfl, .inl ⟨_, rfl, hc12⟩⟩ rfl ?_
      refine GL.skip ⟨_, rfl, .inl ⟨_, rfl, hc12⟩⟩ rfl ?_
      refine GL.skip ⟨_, rfl, .inl ⟨_, rfl, hc12⟩⟩ rfl ?_
      refine GL.val trivial rfl (OV.pickF (b := x5 == x7) (v := .bool false) rfl hc12 rfl) ?_
      exact GL.jump (fun _ _ h => h) false h ⟨rfl, rfl, rfl, trivial⟩
  intro b9 H17 h
  replace h := hR11 b9 H17 h
  refine GL.val trivial rfl (OV.move (v := .bool b9) rfl) ?_
  obtain ⟨J19, h, hR20⟩ := h
  refine GL.cut (α := Bool) 6 J19 (fun b18 => [(23, .bool b18), (2, pv (some (b1, 0))), (3, pv (some (b3, 0)))]) ?_ ?_
  · rcases Bool.eq_false_or_eq_true b9 with hc21 | hc21
    · skip
      replace h := And.left h hc21
      refine GL.val ⟨_, _, rfl, rfl, hc21⟩ rfl (OV.fieldAddr (p := (b1, 0)) rfl rfl) ?_
      obtain ⟨x22, hr23, h⟩ := h
      refine GL.val ⟨_, _, rfl, rfl, hc21⟩ rfl (OV.load (p := ((b1, 0).1, (b1, 0).2 + 4)) rfl rfl hr23) ?_
      refine GL.val ⟨_, _, rfl, rfl, hc21⟩ rfl (OV.fieldAddr (p := (b3, 0)) rfl rfl) ?_
      obtain ⟨x24, hr25, h⟩ := h
      refine GL.val ⟨_, _, rfl, rfl, hc21⟩ rfl (OV.load (p := ((b3, 0).1, (b3, 0).2 + 4)) rfl rfl hr25) ?_
      refine GL.call h ⟨_, _, rfl, rfl, hc21⟩ rfl ok_slices_Equal_string_string (vs := [slv x22, slv x24]) rfl ?_
      rintro _ H27 ⟨r26, rfl, h⟩
      refine GL.val trivial rfl (OV.pickT (b := b9) (v := .bool r26) rfl hc21 rfl) ?_
      exact GL.jump (fun _ _ h => h) r26 h ⟨rfl, rfl, rfl, trivial⟩
    · skip
      replace h := And.right h hc21
      refine GL.skip ⟨_, rfl, .inl ⟨_, rfl, hc21⟩⟩ rfl ?_
      refine GL.skip ⟨_, rfl, .inl ⟨_, rfl, hc21⟩⟩ rfl ?_
      refine GL.skip ⟨_, rfl, .inl ⟨_, rfl, hc21⟩⟩ rfl ?_
      refine GL.skip ⟨_, rfl, .inl ⟨_, rfl, hc21⟩⟩ rfl ?_
      refine GL.skip ⟨_, rfl, .inl ⟨_, rfl, hc21⟩⟩ rfl ?_
      refine GL.val trivial rfl (OV.pickF (b := b9) (v := .bool false) rfl hc21 rfl) ?_
      exact GL.jump (fun _ _ h => h) false h ⟨rfl, rfl, rfl, trivial⟩
  intro b18 H28 h
  replace h := hR20 b18 H28 h
  refine GL.val trivial rfl (OV.move (v := .bool b18) rfl) ?_
  obtain ⟨J30, h, hR31⟩ := h
  refine GL.cut (α := Bool) 6 J30 (fun b29 => [(30, .bool b29)]) ?_ ?_
  · rcases Bool.eq_false_or_eq_true b18 with hc32 | hc32
    · skip
      replace h := And.left h hc32
      refine GL.val ⟨_, _, rfl, rfl, hc32⟩ rfl (OV.fieldAddr (p := (b1, 0)) rfl rfl) ?_
      obtain ⟨x33, hr34, h⟩ := h
      refine GL.val ⟨_, _, rfl, rfl, hc32⟩ rfl (OV.load (p := ((b1, 0).1, (b1, 0).2 + 5)) rfl rfl hr34) ?_
      refine GL.val ⟨_, _, rfl, rfl, hc32⟩ rfl (OV.fieldAddr (p := (b3, 0)) rfl rfl) ?_
      obtain ⟨x35, hr36, h⟩ := h
      refine GL.val ⟨_, _, rfl, rfl, hc32⟩ rfl (OV.load (p := ((b3, 0).1, (b3, 0).2 + 5)) rfl rfl hr36) ?_
      refine GL.call h ⟨_, _, rfl, rfl, hc32⟩ rfl ok_slices_EqualFunc_api_ConsDef_api_ConsDef_api_ConsDef_api_ConsDef (vs := [slv x33, slv x35, .func (.func 74) (List.toArray []) (List.toArray [])]) rfl ?_
      rintro _ H38 ⟨r37, rfl, h⟩
      refine GL.val trivial rfl (OV.pickT (b := b18) (v := .bool r37) rfl hc32 rfl) ?_
      exact GL.jump (fun _ _ h => h) r37 h ⟨rfl, trivial⟩
    · skip
      replace h := And.right h hc32
      refine GL.skip ⟨_, rfl, .inl ⟨_, rfl, hc32⟩⟩ rfl ?_
      refine GL.skip ⟨_, rfl, .inl ⟨_, rfl, hc32⟩⟩ rfl ?_
      refine GL.skip ⟨_, rfl, .inl ⟨_, rfl, hc32⟩⟩ rfl ?_
      refine GL.skip ⟨_, rfl, .inl ⟨_, rfl, hc32⟩⟩ rfl ?_
      refine GL.skip ⟨_, rfl, .inl ⟨_, rfl, hc32⟩⟩ rfl ?_
      refine GL.val trivial rfl (OV.pickF (b := b18) (v := .bool false) rfl hc32 rfl) ?_
      exact GL.jump (fun _ _ h => h) false h ⟨rfl, trivial⟩
  intro b29 H39 h
  replace h := hR31 b29 H39 h
  refine GL.val trivial rfl (OV.assign (v := .bool b29) rfl) ?_
  refine GL.nil ?_
  exact GC.ret (fun _ _ hf hs => post_tmp1 rfl rfl hf hs ⟨b29, rfl, h⟩)

def sh_slices_Equal_string_string (C : Ctx) (p_s1 : Sl) (p_s2 : Sl) (K : Bool → Heap → Prop) (H : Heap) : Prop :=
  ift (((Sl.len p_s1 : Int) : Int) != (Sl.len p_s2 : Int))
 (K false H)
 (lp (α := Int) 0 H (fun x2 J3 H4 =>
 ift (decide ((x2 : Int) < (Sl.len p_s1 : Int)))
 (ixa p_s1 x2 fun p6 =>
 ldS H4 (p6.1, p6.2 + (x2 : Int).toNat * 1) fun x11 =>
 ixa p_s2 x2 fun p13 =>
 ldS H4 (p13.1, p13.2 + (x2 : Int).toNat * 1) fun x18 =>
 ift (!(x11 == x18))
 (K false H4)
 (J3 (w .i64 (x2 + 1)) H4))
 (K true H4)))

theorem ad_slices_Equal_string_string (C : Ctx) (p_s1 : Sl) (p_s2 : Sl) (K : Bool → Heap → Prop) (H : Heap) (h : sh_slices_Equal_string_string C p_s1 p_s2 K H) : c_slices_Equal_string_string C p_s1 p_s2 K H := by
  refine Spec.enter Tryz.func72 rfl Tryz.ntmps72 rfl ?_
  refine GC.sub [(0, slv p_s1), (1, slv p_s2)] ⟨rfl, rfl, trivial⟩ ?_
  refine GC.seq ?_
  refine GC.region ?_
  refine GL.val trivial rfl (OV.assign (v := .bool false) rfl) ?_
  refine GL.nil ?_
  refine GC.seq ?_
  refine GC.seq ?_
  refine GC.region ?_
  refine GL.val trivial rfl (OV.move (v := slv p_s1) rfl) ?_
  refine GL.val trivial rfl (OV.lenSl (s := p_s1) rfl rfl) ?_
  refine GL.val trivial rfl (OV.move (v := slv p_s2) rfl) ?_
  refine GL.val trivial rfl (OV.lenSl (s := p_s2) rfl rfl) ?_
  refine GL.val trivial rfl (OV.ibin (v := .bool (((Sl.len p_s1 : Int) : Int) != (Sl.len p_s2 : Int))) rfl rfl rfl) ?_
  refine GL.nil ?_
  refine GC.cond (b := ((Sl.len p_s1 : Int) : Int) != (Sl.len p_s2 : Int)) rfl (fun hc1 => ?_) (fun hc1 => ?_)
  · replace h := And.left h hc1
    refine GC.seq ?_
    refine GC.region ?_
    refine GL.val trivial rfl (OV.assign (v := .bool false) rfl) ?_
    refine GL.nil ?_
    exact GC.ret (fun _ _ hf hs => post_tmp1 rfl rfl hf hs ⟨false, rfl, h⟩)
  · replace h := And.right h hc1
    refine GC.skip ?_
    refine GC.seq ?_
    refine GC.seq ?_
    refine GC.region ?_
    refine GL.val trivial rfl (OV.move (v := slv p_s1) rfl) ?_
    refine GL.val trivial rfl (OV.lenSl (s := p_s1) rfl rfl) ?_
    refine GL.val trivial rfl (OV.move (v := .int .i64 0) rfl) ?_
    refine GL.nil ?_
    refine GC.block ?_
    refine GC.loop (α := Int) h (fun x2 => [(13, .int .i64 x2), (0, slv p_s1), (1, slv p_s2), (12, .int .i64 (Sl.len p_s1 : Int))]) ⟨rfl, rfl, rfl, rfl, trivial⟩ ?_
    intro x2 H4 J3 h
    refine GC.seq ?_
    refine GC.region ?_
    refine GL.val trivial rfl (OV.ibin (v := .bool (decide ((x2 : Int) < (Sl.len p_s1 : Int)))) rfl rfl rfl) ?_
    refine GL.nil ?_
    refine GC.seq ?_
    refine GC.cond (b := decide ((x2 : Int) < (Sl.len p_s1 : Int))) rfl (fun hc5 => ?_) (fun hc5 => ?_)
    · replace h := And.left h hc5
      refine GC.skip ?_
      refine GC.seq ?_
      refine GC.block ?_
      refine GC.seq ?_
      refine GC.region ?_
      refine GL.val trivial rfl (OV.move (v := .int .i64 x2) rfl) ?_
      refine GL.val trivial rfl (OV.assign (v := .int .i64 x2) rfl) ?_
      refine GL.nil ?_
      refine GC.seq ?_
      refine GC.draw (by kernel_rfl) (by kernel_rfl) ?_
      refine GQ.val trivial rfl (OV.move (v := slv p_s1) rfl) ?_
      refine GQ.val trivial rfl (OV.move (v := .int .i64 x2) rfl) ?_
      obtain ⟨p6, ha7, hb8, hc9, hd10, h⟩ := h
      refine GQ.val trivial rfl (OV.indexAddr (s := p_s1) rfl rfl rfl rfl ha7 hb8 hc9 hd10) ?_
      obtain ⟨x11, hr12, h⟩ := h
      refine GQ.val trivial rfl (OV.load (p := (p6.1, p6.2 + (x2 : Int).toNat * 1)) rfl rfl hr12) ?_
      refine GQ.val trivial rfl (OV.move (v := slv p_s2) rfl) ?_
      refine GQ.val trivial rfl (OV.move (v := .int .i64 x2) rfl) ?_
      obtain ⟨p13, ha14, hb15, hc16, hd17, h⟩ := h
      refine GQ.val trivial rfl (OV.indexAddr (s := p_s2) rfl rfl rfl rfl ha14 hb15 hc16 hd17) ?_
      obtain ⟨x18, hr19, h⟩ := h
      refine GQ.val trivial rfl (OV.load (p := (p13.1, p13.2 + (x2 : Int).toNat * 1)) rfl rfl hr19) ?_
      refine GQ.val trivial rfl (OV.sbin (a := x11) (b := x18) (v := .bool (!(x11 == x18))) rfl rfl rfl) ?_
      refine GQ.nil ?_
      refine GL.nil ?_
      refine GC.cond (b := !(x11 == x18)) rfl (fun hc20 => ?_) (fun hc20 => ?_)
      · replace h := And.left h hc20
        refine GC.seq ?_
        refine GC.region ?_
        refine GL.val trivial rfl (OV.assign (v := .bool false) rfl) ?_
        refine GL.nil ?_
        exact GC.ret (fun _ _ hf hs => post_tmp1 rfl rfl hf hs ⟨false, rfl, h⟩)
      · replace h := And.right h hc20
        refine GC.skip_to (fun _ _ h => h) ?_
        refine GC.region ?_
        refine GL.val trivial rfl (OV.ibin (v := .int .i64 (w .i64 (x2 + 1))) rfl rfl rfl) ?_
        refine GL.val trivial rfl (OV.move (v := .int .i64 (w .i64 (x2 + 1))) rfl) ?_
        exact GL.jump (fun _ _ h => h) (w .i64 (x2 + 1)) h ⟨rfl, rfl, rfl, rfl, trivial⟩
    · replace h := And.right h hc5
      refine GC.exit_to (fun _ _ h => h) ?_
      refine GC.seq ?_
      refine GC.region ?_
      refine GL.val trivial rfl (OV.assign (v := .bool true) rfl) ?_
      refine GL.nil ?_
      exact GC.ret (fun _ _ hf hs => post_tmp1 rfl rfl hf hs ⟨true, rfl, h⟩)

def sh_slices_EqualFunc_api_ConsDef_api_ConsDef_api_ConsDef_api_ConsDef (C : Ctx) (p_s1 : Sl) (p_s2 : Sl) (p_eq : Value) (K : Bool → Heap → Prop) (H : Heap) : Prop :=
  ift (((Sl.len p_s1 : Int) : Int) != (Sl.len p_s2 : Int))
 (K false H)
 (lp (α := Int) 0 H (fun x2 J3 H4 =>
 ift (decide ((x2 : Int) < (Sl.len p_s1 : Int)))
 (ixa p_s1 x2 fun p6 =>
 ldT H4 T_api_ConsDef.c (p6.1, p6.2 + (x2 : Int).toNat * 2) fun x11 =>
 nw (T_api_ConsDef.c T_api_ConsDef.zero) (fun b13 H14 =>
 stT (b13, 0) (T_api_ConsDef.c x11) (fun H15 =>
 ixa p_s2 x2 fun p16 =>
 ldT H15 T_api_ConsDef.c (p16.1, p16.2 + (x2 : Int).toNat * 2) fun x21 =>
 nw (T_api_ConsDef.c T_api_ConsDef.zero) (fun b23 H24 =>
 stT (b23, 0) (T_api_ConsDef.c x21) (fun H25 =>
 ldT H25 T_api_ConsDef.c (b13, 0) fun x26 =>
 ldT H25 T_api_ConsDef.c (b23, 0) fun x28 =>
 callU Tryz.prog C p_eq [.agg (T_api_ConsDef.c x26).toArray, .agg (T_api_ConsDef.c x28).toArray] H25 (fun v H31 => ∃ (r30 : Bool), v = .bool r30 ∧
 ift (!r30)
 (K false H31)
 (J3 (w .i64 (x2 + 1)) H31))) H24) H15) H14) H4)
 (K true H4)))

theorem ad_slices_EqualFunc_api_ConsDef_api_ConsDef_api_ConsDef_api_ConsDef (C : Ctx) (p_s1 : Sl) (p_s2 : Sl) (p_eq : Value) (K : Bool → Heap → Prop) (H : Heap) (h : sh_slices_EqualFunc_api_ConsDef_api_ConsDef_api_ConsDef_api_ConsDef C p_s1 p_s2 p_eq K H) : c_slices_EqualFunc_api_ConsDef_api_ConsDef_api_ConsDef_api_ConsDef C p_s1 p_s2 p_eq K H := by
  refine Spec.enter Tryz.func73 rfl Tryz.ntmps73 rfl ?_
  refine GC.sub [(0, slv p_s1), (1, slv p_s2), (2, p_eq)] ⟨rfl, rfl, rfl, trivial⟩ ?_
  refine GC.seq ?_
  refine GC.region ?_
  refine GL.val trivial rfl (OV.assign (v := .bool false) rfl) ?_
  refine GL.nil ?_
  refine GC.seq ?_
  refine GC.seq ?_
  refine GC.region ?_
  refine GL.val trivial rfl (OV.move (v := slv p_s1) rfl) ?_
  refine GL.val trivial rfl (OV.lenSl (s := p_s1) rfl rfl) ?_
  refine GL.val trivial rfl (OV.move (v := slv p_s2) rfl) ?_
  refine GL.val trivial rfl (OV.lenSl (s := p_s2) rfl rfl) ?_
  refine GL.val trivial rfl (OV.ibin (v := .bool (((Sl.len p_s1 : Int) : Int) != (Sl.len p_s2 : Int))) rfl rfl rfl) ?_
  refine GL.nil ?_
  refine GC.cond (b := ((Sl.len p_s1 : Int) : Int) != (Sl.len p_s2 : Int)) rfl (fun hc1 => ?_) (fun hc1 => ?_)
  · replace h := And.left h hc1
    refine GC.seq ?_
    refine GC.region ?_
    refine GL.val trivial rfl (OV.assign (v := .bool false) rfl) ?_
    refine GL.nil ?_
    exact GC.ret (fun _ _ hf hs => post_tmp1 rfl rfl hf hs ⟨false, rfl, h⟩)
  · replace h := And.right h hc1
    refine GC.skip ?_
    refine GC.seq ?_
    refine GC.seq ?_
    refine GC.region ?_
    refine GL.val trivial rfl (OV.move (v := slv p_s1) rfl) ?_
    refine GL.val trivial rfl (OV.lenSl (s := p_s1) rfl rfl) ?_
    refine GL.val trivial rfl (OV.move (v := .int .i64 0) rfl) ?_
    refine GL.nil ?_
    refine GC.block ?_
    refine GC.loop (α := Int) h (fun x2 => [(17, .int .i64 x2), (1, slv p_s2), (2, p_eq), (15, slv p_s1), (16, .int .i64 (Sl.len p_s1 : Int))]) ⟨rfl, rfl, rfl, rfl, rfl, trivial⟩ ?_
    intro x2 H4 J3 h
    refine GC.seq ?_
    refine GC.region ?_
    refine GL.val trivial rfl (OV.ibin (v := .bool (decide ((x2 : Int) < (Sl.len p_s1 : Int)))) rfl rfl rfl) ?_
    refine GL.nil ?_
    refine GC.seq ?_
    refine GC.cond (b := decide ((x2 : Int) < (Sl.len p_s1 : Int))) rfl (fun hc5 => ?_) (fun hc5 => ?_)
    · replace h := And.left h hc5
      refine GC.skip ?_
      refine GC.seq ?_
      refine GC.block ?_
      refine GC.seq ?_
      refine GC.region ?_
      refine GL.val trivial rfl (OV.move (v := .int .i64 x2) rfl) ?_
      obtain ⟨p6, ha7, hb8, hc9, hd10, h⟩ := h
      refine GL.val trivial rfl (OV.indexAddr (s := p_s1) rfl rfl rfl rfl ha7 hb8 hc9 hd10) ?_
      obtain ⟨x11, hr12, h⟩ := h
      refine GL.val trivial rfl (OV.loadT (p := (p6.1, p6.2 + (x2 : Int).toNat * 2)) (cs := T_api_ConsDef.c x11) rfl rfl rfl hr12) ?_
      refine GL.alloc (cs := T_api_ConsDef.c T_api_ConsDef.zero) h trivial rfl rfl rfl ?_
      intro b13 H14 h
      refine GL.val trivial rfl (OV.assign (v := .int .i64 x2) rfl) ?_
      refine GL.storeT (p := (b13, 0)) (vs := T_api_ConsDef.c x11) h trivial rfl rfl rfl rfl ?_
      intro H15 h
      refine GL.nil ?_
      refine GC.seq ?_
      refine GC.region ?_
      refine GL.val trivial rfl (OV.move (v := slv p_s2) rfl) ?_
      refine GL.val trivial rfl (OV.move (v := .int .i64 x2) rfl) ?_
      obtain ⟨p16, ha17, hb18, hc19, hd20, h⟩ := h
      refine GL.val trivial rfl (OV.indexAddr (s := p_s2) rfl rfl rfl rfl ha17 hb18 hc19 hd20) ?_
      obtain ⟨x21, hr22, h⟩ := h
      refine GL.val trivial rfl (OV.loadT (p := (p16.1, p16.2 + (x2 : Int).toNat * 2)) (cs := T_api_ConsDef.c x21) rfl rfl rfl hr22) ?_
      refine GL.alloc (cs := T_api_ConsDef.c T_api_ConsDef.zero) h trivial rfl rfl rfl ?_
      intro b23 H24 h
      refine GL.storeT (p := (b23, 0)) (vs := T_api_ConsDef.c x21) h trivial rfl rfl rfl rfl ?_
      intro H25 h
      refine GL.nil ?_
      refine GC.seq ?_
      refine GC.region ?_
      refine GL.val trivial rfl (OV.move (v := p_eq) rfl) ?_
      obtain ⟨x26, hr27, h⟩ := h
      refine GL.val trivial rfl (OV.loadT (p := (b13, 0)) (cs := T_api_ConsDef.c x26) rfl rfl rfl hr27) ?_
      obtain ⟨x28, hr29, h⟩ := h
      refine GL.val trivial rfl (OV.loadT (p := (b23, 0)) (cs := T_api_ConsDef.c x28) rfl rfl rfl hr29) ?_
      refine GL.callU (xv := p_eq) (vs := [.agg (T_api_ConsDef.c x26).toArray, .agg (T_api_ConsDef.c x28).toArray]) h trivial rfl rfl rfl ?_
      rintro _ H31 ⟨r30, rfl, h⟩
      refine GL.val trivial rfl (OV.not rfl) ?_
      refine GL.nil ?_
      refine GC.cond (b := !r30) rfl (fun hc32 => ?_) (fun hc32 => ?_)
      · replace h := And.left h hc32
        refine GC.seq ?_
        refine GC.region ?_
        refine GL.val trivial rfl (OV.assign (v := .bool false) rfl) ?_
        refine GL.nil ?_
        exact GC.ret (fun _ _ hf hs => post_tmp1 rfl rfl hf hs ⟨false, rfl, h⟩)
      · replace h := And.right h hc32
        refine GC.skip_to (fun _ _ h => h) ?_
        refine GC.region ?_
        refine GL.val trivial rfl (OV.ibin (v := .int .i64 (w .i64 (x2 + 1))) rfl rfl rfl) ?_
        refine GL.val trivial rfl (OV.move (v := .int .i64 (w .i64 (x2 + 1))) rfl) ?_
        exact GL.jump (fun _ _ h => h) (w .i64 (x2 + 1)) h ⟨rfl, rfl, rfl, rfl, rfl, trivial⟩
    · replace h := And.right h hc5
      refine GC.exit_to (fun _ _ h => h) ?_
      refine GC.seq ?_
      refine GC.region ?_
      refine GL.val trivial rfl (OV.assign (v := .bool true) rfl) ?_
      refine GL.nil ?_
      exact GC.ret (fun _ _ hf hs => post_tmp1 rfl rfl hf hs ⟨true, rfl, h⟩)

def sh_tree_Same_2_1 (C : Ctx) (p_c : T_api_ConsDef) (p_d : T_api_ConsDef) (K : Bool → Heap → Prop) (H : Heap) : Prop :=
  nw (T_api_ConsDef.c p_c) (fun b1 H2 =>
 nw (T_api_ConsDef.c p_d) (fun b3 H4 =>
 ldS H4 ((b1, 0).1, (b1, 0).2 + 0) fun x5 =>
 ldS H4 ((b3, 0).1, (b3, 0).2 + 0) fun x7 =>
 jn (α := Bool) (fun b9 H19 =>
 K b9 H19)
 (fun J10 => ift (x5 == x7)
 (ldL H4 ((b1, 0).1, (b1, 0).2 + 1) fun x13 =>
 ldL H4 ((b3, 0).1, (b3, 0).2 + 1) fun x15 =>
 c_slices_EqualFunc_api_FieldDef_api_FieldDef_api_FieldDef_api_FieldDef C x13 x15 (.func (.func 76) (List.toArray []) (List.toArray []) : Value) (fun r17 H18 =>
 J10 r17 H18) H4)
 (J10 false H4))) H2) H

theorem ad_tree_Same_2_1 (C : Ctx) (p_c : T_api_ConsDef) (p_d : T_api_ConsDef) (K : Bool → Heap → Prop) (H : Heap) (h : sh_tree_Same_2_1 C p_c p_d K H) : c_tree_Same_2_1 C p_c p_d K H := by
  refine Spec.enter Tryz.func74 rfl Tryz.ntmps74 rfl ?_
  refine GC.sub [(0, .agg (T_api_ConsDef.c p_c).toArray), (1, .agg (T_api_ConsDef.c p_d).toArray)] ⟨rfl, rfl, trivial⟩ ?_
  refine GC.seq ?_
  refine GC.region ?_
  refine GL.box (v := .agg (T_api_ConsDef.c p_c).toArray) (cs := T_api_ConsDef.c p_c) h trivial rfl rfl rfl ?_
  intro b1 H2 h
  refine GL.box (v := .agg (T_api_ConsDef.c p_d).toArray) (cs := T_api_ConsDef.c p_d) h trivial rfl rfl rfl ?_
  intro b3 H4 h
  refine GL.val trivial rfl (OV.assign (v := .bool false) rfl) ?_
  refine GL.nil ?_
  refine GC.seq ?_
  refine GC.region ?_
  refine GL.val trivial rfl (OV.fieldAddr (p := (b1, 0)) rfl rfl) ?_
  obtain ⟨x5, hr6, h⟩ := h
  refine GL.val trivial rfl (OV.load (p := ((b1, 0).1, (b1, 0).2 + 0)) rfl rfl hr6) ?_
  refine GL.val trivial rfl (OV.fieldAddr (p := (b3, 0)) rfl rfl) ?_
  obtain ⟨x7, hr8, h⟩ := h
  refine GL.val trivial rfl (OV.load (p := ((b3, 0).1, (b3, 0).2 + 0)) rfl rfl hr8) ?_
  refine GL.val trivial rfl (OV.sbin (a := x5) (b := x7) (v := .bool (x5 == x7)) rfl rfl rfl) ?_
  refine GL.val trivial rfl (OV.move (v := .bool (x5 == x7)) rfl) ?_
  obtain ⟨J10, h, hR11⟩ := h
  refine GL.cut (α := Bool) 6 J10 (fun b9 => [(16, .bool b9)]) ?_ ?_
  · rcases Bool.eq_false_or_eq_true (x5 == x7) with hc12 | hc12
    · skip
      replace h := And.left h hc12
      refine GL.val ⟨_, _, rfl, rfl, hc12⟩ rfl (OV.fieldAddr (p := (b1, 0)) rfl rfl) ?_
      obtain ⟨x13, hr14, h⟩ := h
      refine GL.val ⟨_, _, rfl, rfl, hc12⟩ rfl (OV.load (p := ((b1, 0).1, (b1, 0).2 + 1)) rfl rfl hr14) ?_
      refine GL.val ⟨_, _, rfl, rfl, hc12⟩ rfl (OV.fieldAddr (p := (b3, 0)) rfl rfl) ?_
      obtain ⟨x15, hr16, h⟩ := h
      refine GL.val ⟨_, _, rfl, rfl, hc12⟩ rfl (OV.load (p := ((b3, 0).1, (b3, 0).2 + 1)) rfl rfl hr16) ?_
      refine GL.call h ⟨_, _, rfl, rfl, hc12⟩ rfl ok_slices_EqualFunc_api_FieldDef_api_FieldDef_api_FieldDef_api_FieldDef (vs := [slv x13, slv x15, .func (.func 76) (List.toArray []) (List.toArray [])]) rfl ?_
      rintro _ H18 ⟨r17, rfl, h⟩
      refine GL.val trivial rfl (OV.pickT (b := x5 == x7) (v := .bool r17) rfl hc12 rfl) ?_
      exact GL.jump (fun _ _ h => h) r17 h ⟨rfl, trivial⟩
    · skip
      replace h := And.right h hc12
      refine GL.skip ⟨_, rfl, .inl ⟨_, rfl, hc12⟩⟩ rfl ?_
      refine GL.skip ⟨_, rfl, .inl ⟨_, rfl, hc12⟩⟩ rfl ?_
      refine GL.skip ⟨_, rfl, .inl ⟨_, rfl, hc12⟩⟩ rfl ?_
      refine GL.skip ⟨_, rfl, .inl ⟨_, rfl, hc12⟩⟩ rfl ?_
      refine GL.skip ⟨_, rfl, .inl ⟨_, rfl, hc12⟩⟩ rfl ?_
      refine GL.val trivial rfl (OV.pickF (b := x5 == x7) (v := .bool false) rfl hc12 rfl) ?_
      exact GL.jump (fun _ _ h => h) false h ⟨rfl, trivial⟩
  intro b9 H19 h
  replace h := hR11 b9 H19 h
  refine GL.val trivial rfl (OV.assign (v := .bool b9) rfl) ?_
  refine GL.nil ?_
  exact GC.ret (fun _ _ hf hs => post_tmp1 rfl rfl hf hs ⟨b9, rfl, h⟩)

def sh_slices_EqualFunc_api_FieldDef_api_FieldDef_api_FieldDef_api_FieldDef (C : Ctx) (p_s1 : Sl) (p_s2 : Sl) (p_eq : Value) (K : Bool → Heap → Prop) (H : Heap) : Prop :=
  ift (((Sl.len p_s1 : Int) : Int) != (Sl.len p_s2 : Int))
 (K false H)
 (lp (α := Int) 0 H (fun x2 J3 H4 =>
 ift (decide ((x2 : Int) < (Sl.len p_s1 : Int)))
 (ixa p_s1 x2 fun p6 =>
 ldT H4 T_api_FieldDef.c (p6.1, p6.2 + (x2 : Int).toNat * 3) fun x11 =>
 nw (T_api_FieldDef.c T_api_FieldDef.zero) (fun b13 H14 =>
 stT (b13, 0) (T_api_FieldDef.c x11) (fun H15 =>
 ixa p_s2 x2 fun p16 =>
 ldT H15 T_api_FieldDef.c (p16.1, p16.2 + (x2 : Int).toNat * 3) fun x21 =>
 nw (T_api_FieldDef.c T_api_FieldDef.zero) (fun b23 H24 =>
 stT (b23, 0) (T_api_FieldDef.c x21) (fun H25 =>
 ldT H25 T_api_FieldDef.c (b13, 0) fun x26 =>
 ldT H25 T_api_FieldDef.c (b23, 0) fun x28 =>
 callU Tryz.prog C p_eq [.agg (T_api_FieldDef.c x26).toArray, .agg (T_api_FieldDef.c x28).toArray] H25 (fun v H31 => ∃ (r30 : Bool), v = .bool r30 ∧
 ift (!r30)
 (K false H31)
 (J3 (w .i64 (x2 + 1)) H31))) H24) H15) H14) H4)
 (K true H4)))

theorem ad_slices_EqualFunc_api_FieldDef_api_FieldDef_api_FieldDef_api_FieldDef (C : Ctx) (p_s1 : Sl) (p_s2 : Sl) (p_eq : Value) (K : Bool → Heap → Prop) (H : Heap) (h : sh_slices_EqualFunc_api_FieldDef_api_FieldDef_api_FieldDef_api_FieldDef C p_s1 p_s2 p_eq K H) : c_slices_EqualFunc_api_FieldDef_api_FieldDef_api_FieldDef_api_FieldDef C p_s1 p_s2 p_eq K H := by
  refine Spec.enter Tryz.func75 rfl Tryz.ntmps75 rfl ?_
  refine GC.sub [(0, slv p_s1), (1, slv p_s2), (2, p_eq)] ⟨rfl, rfl, rfl, trivial⟩ ?_
  refine GC.seq ?_
  refine GC.region ?_
  refine GL.val trivial rfl (OV.assign (v := .bool false) rfl) ?_
  refine GL.nil ?_
  refine GC.seq ?_
  refine GC.seq ?_
  refine GC.region ?_
  refine GL.val trivial rfl (OV.move (v := slv p_s1) rfl) ?_
  refine GL.val trivial rfl (OV.lenSl (s := p_s1) rfl rfl) ?_
  refine GL.val trivial rfl (OV.move (v := slv p_s2) rfl) ?_
  refine GL.val trivial rfl (OV.lenSl (s := p_s2) rfl rfl) ?_
  refine GL.val trivial rfl (OV.ibin (v := .bool (((Sl.len p_s1 : Int) : Int) != (Sl.len p_s2 : Int))) rfl rfl rfl) ?_
  refine GL.nil ?_
  refine GC.cond (b := ((Sl.len p_s1 : Int) : Int) != (Sl.len p_s2 : Int)) rfl (fun hc1 => ?_) (fun hc1 => ?_)
  · replace h := And.left h hc1
    refine GC.seq ?_
    refine GC.region ?_
    refine GL.val trivial rfl (OV.assign (v := .bool false) rfl) ?_
    refine GL.nil ?_
    exact GC.ret (fun _ _ hf hs => post_tmp1 rfl rfl hf hs ⟨false, rfl, h⟩)
  · replace h := And.right h hc1
    refine GC.skip ?_
    refine GC.seq ?_
    refine GC.seq ?_
    refine GC.region ?_
    refine GL.val trivial rfl (OV.move (v := slv p_s1) rfl) ?_
    refine GL.val trivial rfl (OV.lenSl (s := p_s1) rfl rfl) ?_
    refine GL.val trivial rfl (OV.move (v := .int .i64 0) rfl) ?_
    refine GL.nil ?_
    refine GC.block ?_
    refine GC.loop (α := Int) h (fun x2 => [(17, .int .i64 x2), (1, slv p_s2), (2, p_eq), (15, slv p_s1), (16, .int .i64 (Sl.len p_s1 : Int))]) ⟨rfl, rfl, rfl, rfl, rfl, trivial⟩ ?_
    intro x2 H4 J3 h
    refine GC.seq ?_
    refine GC.region ?_
    refine GL.val trivial rfl (OV.ibin (v := .bool (decide ((x2 : Int) < (Sl.len p_s1 : Int)))) rfl rfl rfl) ?_
    refine GL.nil ?_
    refine GC.seq ?_
    refine GC.cond (b := decide ((x2 : Int) < (Sl.len p_s1 : Int))) rfl (fun hc5 => ?_) (fun hc5 => ?_)
    · replace h := And.left h hc5
      refine GC.skip ?_
      refine GC.seq ?_
      refine GC.block ?_
      refine GC.seq ?_
      refine GC.region ?_
      refine GL.val trivial rfl (OV.move (v := .int .i64 x2) rfl) ?_
      obtain ⟨p6, ha7, hb8, hc9, hd10, h⟩ := h
      refine GL.val trivial rfl (OV.indexAddr (s := p_s1) rfl rfl rfl rfl ha7 hb8 hc9 hd10) ?_
      obtain ⟨x11, hr12, h⟩ := h
      refine GL.val trivial rfl (OV.loadT (p := (p6.1, p6.2 + (x2 : Int).toNat * 3)) (cs := T_api_FieldDef.c x11) rfl rfl rfl hr12) ?_
      refine GL.alloc (cs := T_api_FieldDef.c T_api_FieldDef.zero) h trivial rfl rfl rfl ?_
      intro b13 H14 h
      refine GL.val trivial rfl (OV.assign (v := .int .i64 x2) rfl) ?_
      refine GL.storeT (p := (b13, 0)) (vs := T_api_FieldDef.c x11) h trivial rfl rfl rfl rfl ?_
      intro H15 h
      refine GL.nil ?_
      refine GC.seq ?_
      refine GC.region ?_
      refine GL.val trivial rfl (OV.move (v := slv p_s2) rfl) ?_
      refine GL.val trivial rfl (OV.move (v := .int .i64 x2) rfl) ?_
      obtain ⟨p16, ha17, hb18, hc19, hd20, h⟩ := h
      refine GL.val trivial rfl (OV.indexAddr (s := p_s2) rfl rfl rfl rfl ha17 hb18 hc19 hd20) ?_
      obtain ⟨x21, hr22, h⟩ := h
      refine GL.val trivial rfl (OV.loadT (p := (p16.1, p16.2 + (x2 : Int).toNat * 3)) (cs := T_api_FieldDef.c x21) rfl rfl rfl hr22) ?_
      refine GL.alloc (cs := T_api_FieldDef.c T_api_FieldDef.zero) h trivial rfl rfl rfl ?_
      intro b23 H24 h
      refine GL.storeT (p := (b23, 0)) (vs := T_api_FieldDef.c x21) h trivial rfl rfl rfl rfl ?_
      intro H25 h
      refine GL.nil ?_
      refine GC.seq ?_
      refine GC.region ?_
      refine GL.val trivial rfl (OV.move (v := p_eq) rfl) ?_
      obtain ⟨x26, hr27, h⟩ := h
      refine GL.val trivial rfl (OV.loadT (p := (b13, 0)) (cs := T_api_FieldDef.c x26) rfl rfl rfl hr27) ?_
      obtain ⟨x28, hr29, h⟩ := h
      refine GL.val trivial rfl (OV.loadT (p := (b23, 0)) (cs := T_api_FieldDef.c x28) rfl rfl rfl hr29) ?_
      refine GL.callU (xv := p_eq) (vs := [.agg (T_api_FieldDef.c x26).toArray, .agg (T_api_FieldDef.c x28).toArray]) h trivial rfl rfl rfl ?_
      rintro _ H31 ⟨r30, rfl, h⟩
      refine GL.val trivial rfl (OV.not rfl) ?_
      refine GL.nil ?_
      refine GC.cond (b := !r30) rfl (fun hc32 => ?_) (fun hc32 => ?_)
      · replace h := And.left h hc32
        refine GC.seq ?_
        refine GC.region ?_
        refine GL.val trivial rfl (OV.assign (v := .bool false) rfl) ?_
        refine GL.nil ?_
        exact GC.ret (fun _ _ hf hs => post_tmp1 rfl rfl hf hs ⟨false, rfl, h⟩)
      · replace h := And.right h hc32
        refine GC.skip_to (fun _ _ h => h) ?_
        refine GC.region ?_
        refine GL.val trivial rfl (OV.ibin (v := .int .i64 (w .i64 (x2 + 1))) rfl rfl rfl) ?_
        refine GL.val trivial rfl (OV.move (v := .int .i64 (w .i64 (x2 + 1))) rfl) ?_
        exact GL.jump (fun _ _ h => h) (w .i64 (x2 + 1)) h ⟨rfl, rfl, rfl, rfl, rfl, trivial⟩
    · replace h := And.right h hc5
      refine GC.exit_to (fun _ _ h => h) ?_
      refine GC.seq ?_
      refine GC.region ?_
      refine GL.val trivial rfl (OV.assign (v := .bool true) rfl) ?_
      refine GL.nil ?_
      exact GC.ret (fun _ _ hf hs => post_tmp1 rfl rfl hf hs ⟨true, rfl, h⟩)

def sh_tree_sameField (C : Ctx) (p_a : T_api_FieldDef) (p_b : T_api_FieldDef) (K : Bool → Heap → Prop) (H : Heap) : Prop :=
  nw (T_api_FieldDef.c p_a) (fun b1 H2 =>
 nw (T_api_FieldDef.c p_b) (fun b3 H4 =>
 ldS H4 ((b1, 0).1, (b1, 0).2 + 0) fun x5 =>
 ldS H4 ((b3, 0).1, (b3, 0).2 + 0) fun x7 =>
 jn (α := Bool) (fun b9 H19 =>
 K b9 H19)
 (fun J10 => ift (x5 == x7)
 (ldT H4 T_api_Type.c ((b1, 0).1, (b1, 0).2 + 1) fun x13 =>
 ldT H4 T_api_Type.c ((b3, 0).1, (b3, 0).2 + 1) fun x15 =>
 c_tree_sameType C x13 x15 (fun r17 H18 =>
 J10 r17 H18) H4)
 (J10 false H4))) H2) H

theorem ad_tree_sameField (C : Ctx) (p_a : T_api_FieldDef) (p_b : T_api_FieldDef) (K : Bool → Heap → Prop) (H : Heap) (h : sh_tree_sameField C p_a p_b K H) : c_tree_sameField C p_a p_b K H := by
  refine Spec.enter Tryz.func76 rfl Tryz.ntmps76 rfl ?_
  refine GC.sub [(0, .agg (T_api_FieldDef.c p_a).toArray), (1, .agg (T_api_FieldDef.c p_b).toArray)] ⟨rfl, rfl, trivial⟩ ?_
  refine GC.seq ?_
  refine GC.region ?_
  refine GL.box (v := .agg (T_api_FieldDef.c p_a).toArray) (cs := T_api_FieldDef.c p_a) h trivial rfl rfl rfl ?_
  intro b1 H2 h
  refine GL.box (v := .agg (T_api_FieldDef.c p_b).toArray) (cs := T_api_FieldDef.c p_b) h trivial rfl rfl rfl ?_
  intro b3 H4 h
  refine GL.val trivial rfl (OV.assign (v := .bool false) rfl) ?_
  refine GL.nil ?_
  refine GC.seq ?_
  refine GC.region ?_
  refine GL.val trivial rfl (OV.fieldAddr (p := (b1, 0)) rfl rfl) ?_
  obtain ⟨x5, hr6, h⟩ := h
  refine GL.val trivial rfl (OV.load (p := ((b1, 0).1, (b1, 0).2 + 0)) rfl rfl hr6) ?_
  refine GL.val trivial rfl (OV.fieldAddr (p := (b3, 0)) rfl rfl) ?_
  obtain ⟨x7, hr8, h⟩ := h
  refine GL.val trivial rfl (OV.load (p := ((b3, 0).1, (b3, 0).2 + 0)) rfl rfl hr8) ?_
  refine GL.val trivial rfl (OV.sbin (a := x5) (b := x7) (v := .bool (x5 == x7)) rfl rfl rfl) ?_
  refine GL.val trivial rfl (OV.move (v := .bool (x5 == x7)) rfl) ?_
  obtain ⟨J10, h, hR11⟩ := h
  refine GL.cut (α := Bool) 6 J10 (fun b9 => [(16, .bool b9)]) ?_ ?_
  · rcases Bool.eq_false_or_eq_true (x5 == x7) with hc12 | hc12
    · skip
      replace h := And.left h hc12
      refine GL.val ⟨_, _, rfl, rfl, hc12⟩ rfl (OV.fieldAddr (p := (b1, 0)) rfl rfl) ?_
      obtain ⟨x13, hr14, h⟩ := h
      refine GL.val ⟨_, _, rfl, rfl, hc12⟩ rfl (OV.loadT (p := ((b1, 0).1, (b1, 0).2 + 1)) (cs := T_api_Type.c x13) rfl rfl rfl hr14) ?_
      refine GL.val ⟨_, _, rfl, rfl, hc12⟩ rfl (OV.fieldAddr (p := (b3, 0)) rfl rfl) ?_
      obtain ⟨x15, hr16, h⟩ := h
      refine GL.val ⟨_, _, rfl, rfl, hc12⟩ rfl (OV.loadT (p := ((b3, 0).1, (b3, 0).2 + 1)) (cs := T_api_Type.c x15) rfl rfl rfl hr16) ?_
      refine GL.call h ⟨_, _, rfl, rfl, hc12⟩ rfl ok_tree_sameType (vs := [.agg (T_api_Type.c x13).toArray, .agg (T_api_Type.c x15).toArray]) rfl ?_
      rintro _ H18 ⟨r17, rfl, h⟩
      refine GL.val trivial rfl (OV.pickT (b := x5 == x7) (v := .bool r17) rfl hc12 rfl) ?_
      exact GL.jump (fun _ _ h => h) r17 h ⟨rfl, trivial⟩
    · skip
      replace h := And.right h hc12
      refine GL.skip ⟨_, rfl, .inl ⟨_, rfl, hc12⟩⟩ rfl ?_
      refine GL.skip ⟨_, rfl, .inl ⟨_, rfl, hc12⟩⟩ rfl ?_
      refine GL.skip ⟨_, rfl, .inl ⟨_, rfl, hc12⟩⟩ rfl ?_
      refine GL.skip ⟨_, rfl, .inl ⟨_, rfl, hc12⟩⟩ rfl ?_
      refine GL.skip ⟨_, rfl, .inl ⟨_, rfl, hc12⟩⟩ rfl ?_
      refine GL.val trivial rfl (OV.pickF (b := x5 == x7) (v := .bool false) rfl hc12 rfl) ?_
      exact GL.jump (fun _ _ h => h) false h ⟨rfl, trivial⟩
  intro b9 H19 h
  replace h := hR11 b9 H19 h
  refine GL.val trivial rfl (OV.assign (v := .bool b9) rfl) ?_
  refine GL.nil ?_
  exact GC.ret (fun _ _ hf hs => post_tmp1 rfl rfl hf hs ⟨b9, rfl, h⟩)

def sh_slices_EqualFunc_api_RelDef_api_RelDef_api_RelDef_api_RelDef (C : Ctx) (p_s1 : Sl) (p_s2 : Sl) (p_eq : Value) (K : Bool → Heap → Prop) (H : Heap) : Prop :=
  ift (((Sl.len p_s1 : Int) : Int) != (Sl.len p_s2 : Int))
 (K false H)
 (lp (α := Int) 0 H (fun x2 J3 H4 =>
 ift (decide ((x2 : Int) < (Sl.len p_s1 : Int)))
 (ixa p_s1 x2 fun p6 =>
 ldT H4 T_api_RelDef.c (p6.1, p6.2 + (x2 : Int).toNat * 6) fun x11 =>
 nw (T_api_RelDef.c T_api_RelDef.zero) (fun b13 H14 =>
 stT (b13, 0) (T_api_RelDef.c x11) (fun H15 =>
 ixa p_s2 x2 fun p16 =>
 ldT H15 T_api_RelDef.c (p16.1, p16.2 + (x2 : Int).toNat * 6) fun x21 =>
 nw (T_api_RelDef.c T_api_RelDef.zero) (fun b23 H24 =>
 stT (b23, 0) (T_api_RelDef.c x21) (fun H25 =>
 ldT H25 T_api_RelDef.c (b13, 0) fun x26 =>
 ldT H25 T_api_RelDef.c (b23, 0) fun x28 =>
 callU Tryz.prog C p_eq [.agg (T_api_RelDef.c x26).toArray, .agg (T_api_RelDef.c x28).toArray] H25 (fun v H31 => ∃ (r30 : Bool), v = .bool r30 ∧
 ift (!r30)
 (K false H31)
 (J3 (w .i64 (x2 + 1)) H31))) H24) H15) H14) H4)
 (K true H4)))

theorem ad_slices_EqualFunc_api_RelDef_api_RelDef_api_RelDef_api_RelDef (C : Ctx) (p_s1 : Sl) (p_s2 : Sl) (p_eq : Value) (K : Bool → Heap → Prop) (H : Heap) (h : sh_slices_EqualFunc_api_RelDef_api_RelDef_api_RelDef_api_RelDef C p_s1 p_s2 p_eq K H) : c_slices_EqualFunc_api_RelDef_api_RelDef_api_RelDef_api_RelDef C p_s1 p_s2 p_eq K H := by
  refine Spec.enter Tryz.func77 rfl Tryz.ntmps77 rfl ?_
  refine GC.sub [(0, slv p_s1), (1, slv p_s2), (2, p_eq)] ⟨rfl, rfl, rfl, trivial⟩ ?_
  refine GC.seq ?_
  refine GC.region ?_
  refine GL.val trivial rfl (OV.assign (v := .bool false) rfl) ?_
  refine GL.nil ?_
  refine GC.seq ?_
  refine GC.seq ?_
  refine GC.region ?_
  refine GL.val trivial rfl (OV.move (v := slv p_s1) rfl) ?_
  refine GL.val trivial rfl (OV.lenSl (s := p_s1) rfl rfl) ?_
  refine GL.val trivial rfl (OV.move (v := slv p_s2) rfl) ?_
  refine GL.val trivial rfl (OV.lenSl (s := p_s2) rfl rfl) ?_
  refine GL.val trivial rfl (OV.ibin (v := .bool (((Sl.len p_s1 : Int) : Int) != (Sl.len p_s2 : Int))) rfl rfl rfl) ?_
  refine GL.nil ?_
  refine GC.cond (b := ((Sl.len p_s1 : Int) : Int) != (Sl.len p_s2 : Int)) rfl (fun hc1 => ?_) (fun hc1 => ?_)
  · replace h := And.left h hc1
    refine GC.seq ?_
    refine GC.region ?_
    refine GL.val trivial rfl (OV.assign (v := .bool false) rfl) ?_
    refine GL.nil ?_
    exact GC.ret (fun _ _ hf hs => post_tmp1 rfl rfl hf hs ⟨false, rfl, h⟩)
  · replace h := And.right h hc1
    refine GC.skip ?_
    refine GC.seq ?_
    refine GC.seq ?_
    refine GC.region ?_
    refine GL.val trivial rfl (OV.move (v := slv p_s1) rfl) ?_
    refine GL.val trivial rfl (OV.lenSl (s := p_s1) rfl rfl) ?_
    refine GL.val trivial rfl (OV.move (v := .int .i64 0) rfl) ?_
    refine GL.nil ?_
    refine GC.block ?_
    refine GC.loop (α := Int) h (fun x2 => [(17, .int .i64 x2), (1, slv p_s2), (2, p_eq), (15, slv p_s1), (16, .int .i64 (Sl.len p_s1 : Int))]) ⟨rfl, rfl, rfl, rfl, rfl, trivial⟩ ?_
    intro x2 H4 J3 h
    refine GC.seq ?_
    refine GC.region ?_
    refine GL.val trivial rfl (OV.ibin (v := .bool (decide ((x2 : Int) < (Sl.len p_s1 : Int)))) rfl rfl rfl) ?_
    refine GL.nil ?_
    refine GC.seq ?_
    refine GC.cond (b := decide ((x2 : Int) < (Sl.len p_s1 : Int))) rfl (fun hc5 => ?_) (fun hc5 => ?_)
    · replace h := And.left h hc5
      refine GC.skip ?_
      refine GC.seq ?_
      refine GC.block ?_
      refine GC.seq ?_
      refine GC.region ?_
      refine GL.val trivial rfl (OV.move (v := .int .i64 x2) rfl) ?_
      obtain ⟨p6, ha7, hb8, hc9, hd10, h⟩ := h
      refine GL.val trivial rfl (OV.indexAddr (s := p_s1) rfl rfl rfl rfl ha7 hb8 hc9 hd10) ?_
      obtain ⟨x11, hr12, h⟩ := h
      refine GL.val trivial rfl (OV.loadT (p := (p6.1, p6.2 + (x2 : Int).toNat * 6)) (cs := T_api_RelDef.c x11) rfl rfl rfl hr12) ?_
      refine GL.alloc (cs := T_api_RelDef.c T_api_RelDef.zero) h trivial rfl rfl rfl ?_
      intro b13 H14 h
      refine GL.val trivial rfl (OV.assign (v := .int .i64 x2) rfl) ?_
      refine GL.storeT (p := (b13, 0)) (vs := T_api_RelDef.c x11) h trivial rfl rfl rfl rfl ?_
      intro H15 h
      refine GL.nil ?_
      refine GC.seq ?_
      refine GC.region ?_
      refine GL.val trivial rfl (OV.move (v := slv p_s2) rfl) ?_
      refine GL.val trivial rfl (OV.move (v := .int .i64 x2) rfl) ?_
      obtain ⟨p16, ha17, hb18, hc19, hd20, h⟩ := h
      refine GL.val trivial rfl (OV.indexAddr (s := p_s2) rfl rfl rfl rfl ha17 hb18 hc19 hd20) ?_
      obtain ⟨x21, hr22, h⟩ := h
      refine GL.val trivial rfl (OV.loadT (p := (p16.1, p16.2 + (x2 : Int).toNat * 6)) (cs := T_api_RelDef.c x21) rfl rfl rfl hr22) ?_
      refine GL.alloc (cs := T_api_RelDef.c T_api_RelDef.zero) h trivial rfl rfl rfl ?_
      intro b23 H24 h
      refine GL.storeT (p := (b23, 0)) (vs := T_api_RelDef.c x21) h trivial rfl rfl rfl rfl ?_
      intro H25 h
      refine GL.nil ?_
      refine GC.seq ?_
      refine GC.region ?_
      refine GL.val trivial rfl (OV.move (v := p_eq) rfl) ?_
      obtain ⟨x26, hr27, h⟩ := h
      refine GL.val trivial rfl (OV.loadT (p := (b13, 0)) (cs := T_api_RelDef.c x26) rfl rfl rfl hr27) ?_
      obtain ⟨x28, hr29, h⟩ := h
      refine GL.val trivial rfl (OV.loadT (p := (b23, 0)) (cs := T_api_RelDef.c x28) rfl rfl rfl hr29) ?_
      refine GL.callU (xv := p_eq) (vs := [.agg (T_api_RelDef.c x26).toArray, .agg (T_api_RelDef.c x28).toArray]) h trivial rfl rfl rfl ?_
      rintro _ H31 ⟨r30, rfl, h⟩
      refine GL.val trivial rfl (OV.not rfl) ?_
      refine GL.nil ?_
      refine GC.cond (b := !r30) rfl (fun hc32 => ?_) (fun hc32 => ?_)
      · replace h := And.left h hc32
        refine GC.seq ?_
        refine GC.region ?_
        refine GL.val trivial rfl (OV.assign (v := .bool false) rfl) ?_
        refine GL.nil ?_
        exact GC.ret (fun _ _ hf hs => post_tmp1 rfl rfl hf hs ⟨false, rfl, h⟩)
      · replace h := And.right h hc32
        refine GC.skip_to (fun _ _ h => h) ?_
        refine GC.region ?_
        refine GL.val trivial rfl (OV.ibin (v := .int .i64 (w .i64 (x2 + 1))) rfl rfl rfl) ?_
        refine GL.val trivial rfl (OV.move (v := .int .i64 (w .i64 (x2 + 1))) rfl) ?_
        exact GL.jump (fun _ _ h => h) (w .i64 (x2 + 1)) h ⟨rfl, rfl, rfl, rfl, rfl, trivial⟩
    · replace h := And.right h hc5
      refine GC.exit_to (fun _ _ h => h) ?_
      refine GC.seq ?_
      refine GC.region ?_
      refine GL.val trivial rfl (OV.assign (v := .bool true) rfl) ?_
      refine GL.nil ?_
      exact GC.ret (fun _ _ hf hs => post_tmp1 rfl rfl hf hs ⟨true, rfl, h⟩)

def sh_tree_Same_3 (C : Ctx) (p_x : T_api_RelDef) (p_y : T_api_RelDef) (K : Bool → Heap → Prop) (H : Heap) : Prop :=
  nw (T_api_RelDef.c p_x) (fun b1 H2 =>
 nw (T_api_RelDef.c p_y) (fun b3 H4 =>
 ldB H4 ((b1, 0).1, (b1, 0).2 + 2) fun x5 =>
 ldB H4 ((b3, 0).1, (b3, 0).2 + 2) fun x7 =>
 jn (α := Bool) (fun b9 H17 =>
 jn (α := Bool) (fun b18 H26 =>
 jn (α := Bool) (fun b27 H37 =>
 K b27 H37)
 (fun J28 => ift b18
 (ldL H26 ((b1, 0).1, (b1, 0).2 + 5) fun x31 =>
 ldL H26 ((b3, 0).1, (b3, 0).2 + 5) fun x33 =>
 c_slices_EqualFunc_api_FieldDef_api_FieldDef_api_FieldDef_api_FieldDef C x31 x33 (.func (.func 76) (List.toArray []) (List.toArray []) : Value) (fun r35 H36 =>
 J28 r35 H36) H26)
 (J28 false H26)))
 (fun J19 => ift b9
 (ldS H17 ((b1, 0).1, (b1, 0).2 + 4) fun x22 =>
 ldS H17 ((b3, 0).1, (b3, 0).2 + 4) fun x24 =>
 J19 (x22 == x24) H17)
 (J19 false H17)))
 (fun J10 => ift (x5 == x7)
 (ldB H4 ((b1, 0).1, (b1, 0).2 + 3) fun x13 =>
 ldB H4 ((b3, 0).1, (b3, 0).2 + 3) fun x15 =>
 J10 (x13 == x15) H4)
 (J10 false H4))) H2) H

theorem ad_tree_Same_3 (C : Ctx) (p_x : T_api_RelDef) (p_y : T_api_RelDef) (K : Bool → Heap → Prop) (H : Heap) (h : sh_tree_Same_3 C p_x p_y K H) : c_tree_Same_3 C p_x p_y K H := by
  refine Spec.enter Tryz.func78 rfl Tryz.ntmps78 rfl ?_
  refine GC.sub [(0, .agg (T_api_RelDef.c p_x).toArray), (1, .agg (T_api_RelDef.c p_y).toArray)] ⟨rfl, rfl, trivial⟩ ?_
  refine GC.seq ?_
  refine GC.region ?_
  refine GL.box (v := .agg (T_api_RelDef.c p_x).toArray) (cs := T_api_RelDef.c p_x) h trivial rfl rfl rfl ?_
  intro b1 H2 h
  refine GL.box (v := .agg (T_api_RelDef.c p_y).toArray) (cs := T_api_RelDef.c p_y) h trivial rfl rfl rfl ?_
  intro b3 H4 h
  refine GL.val trivial rfl (OV.assign (v := .bool false) rfl) ?_
  refine GL.nil ?_
  refine GC.seq ?_
  refine GC.region ?_
  refine GL.val trivial rfl (OV.fieldAddr (p := (b1, 0)) rfl rfl) ?_
  obtain ⟨x5, hr6, h⟩ := h
  refine GL.val trivial rfl (OV.load (p := ((b1, 0).1, (b1, 0).2 + 2)) rfl rfl hr6) ?_
  refine GL.val trivial rfl (OV.fieldAddr (p := (b3, 0)) rfl rfl) ?_
  obtain ⟨x7, hr8, h⟩ := h
  refine GL.val trivial rfl (OV.load (p := ((b3, 0).1, (b3, 0).2 + 2)) rfl rfl hr8) ?_
  refine GL.val trivial rfl (OV.eqlBool rfl rfl rfl) ?_
  refine GL.val trivial rfl (OV.move (v := .bool (x5 == x7)) rfl) ?_
  obtain ⟨J10, h, hR11⟩ := h
  refine GL.cut (α := Bool) 6 J10 (fun b9 => [(16, .bool b9), (2, pv (some (b1, 0))), (3, pv (some (b3, 0)))]) ?_ ?_
  · rcases Bool.eq_false_or_eq_true (x5 == x7) with hc12 | hc12
    · skip
      replace h := And.left h hc12
      refine GL.val ⟨_, _, rfl, rfl, hc12⟩ rfl (OV.fieldAddr (p := (b1, 0)) rfl rfl) ?_
      obtain ⟨x13, hr14, h⟩ := h
      refine GL.val ⟨_, _, rfl, rfl, hc12⟩ rfl (OV.load (p := ((b1, 0).1, (b1, 0).2 + 3)) rfl rfl hr14) ?_
      refine GL.val ⟨_, _, rfl, rfl, hc12⟩ rfl (OV.fieldAddr (p := (b3, 0)) rfl rfl) ?_
      obtain ⟨x15, hr16, h⟩ := h
      refine GL.val ⟨_, _, rfl, rfl, hc12⟩ rfl (OV.load (p := ((b3, 0).1, (b3, 0).2 + 3)) rfl rfl hr16) ?_
      refine GL.val ⟨_, _, rfl, rfl, hc12⟩ rfl (OV.eqlBool rfl rfl rfl) ?_
      refine GL.val trivial rfl (OV.pickT (b := x5 == x7) (v := .bool (x13 == x15)) rfl hc12 rfl) ?_
      exact GL.jump (fun _ _ h => h) (x13 == x15) h ⟨rfl, rfl, rfl, trivial⟩
    · skip
      replace h := And.right h hc12
      refine GL.skip ⟨_, rfl, .inl ⟨_, rfl, hc12⟩⟩ rfl ?_
      refine GL.skip ⟨_, rfl, .inl ⟨_, rfl, hc12⟩⟩ rfl ?_
      refine GL.skip ⟨_, rfl, .inl ⟨_, rfl, hc12⟩⟩ rfl ?_
      refine GL.skip ⟨_, rfl, .inl ⟨_, rfl, hc12⟩⟩ rfl ?_
      refine GL.skip ⟨_, rfl, .inl ⟨_, rfl, hc12⟩⟩ rfl ?_
      refine GL.val trivial rfl (OV.pickF (b := x5 == x7) (v := .bool false) rfl hc12 rfl) ?_
      exact GL.jump (fun _ _ h => h) false h ⟨rfl, rfl, rfl, trivial⟩
  intro b9 H17 h
  replace h := hR11 b9 H17 h
  refine GL.val trivial rfl (OV.move (v := .bool b9) rfl) ?_
  obtain ⟨J19, h, hR20⟩ := h
  refine GL.cut (α := Bool) 6 J19 (fun b18 => [(23, .bool b18), (2, pv (some (b1, 0))), (3, pv (some (b3, 0)))]) ?_ ?_
  · rcases Bool.eq_false_or_eq_true b9 with hc21 | hc21
    · skip
      replace h := And.left h hc21
      refine GL.val ⟨_, _, rfl, rfl, hc21⟩ rfl (OV.fieldAddr (p := (b1, 0)) rfl rfl) ?_
      obtain ⟨x22, hr23, h⟩ := h
      refine GL.val ⟨_, _, rfl, rfl, hc21⟩ rfl (OV.load (p := ((b1, 0).1, (b1, 0).2 + 4)) rfl rfl hr23) ?_
      refine GL.val ⟨_, _, rfl, rfl, hc21⟩ rfl (OV.fieldAddr (p := (b3, 0)) rfl rfl) ?_
      obtain ⟨x24, hr25, h⟩ := h
      refine GL.val ⟨_, _, rfl, rfl, hc21⟩ rfl (OV.load (p := ((b3, 0).1, (b3, 0).2 + 4)) rfl rfl hr25) ?_
      refine GL.val ⟨_, _, rfl, rfl, hc21⟩ rfl (OV.sbin (a := x22) (b := x24) (v := .bool (x22 == x24)) rfl rfl rfl) ?_
      refine GL.val trivial rfl (OV.pickT (b := b9) (v := .bool (x22 == x24)) rfl hc21 rfl) ?_
      exact GL.jump (fun _ _ h => h) (x22 == x24) h ⟨rfl, rfl, rfl, trivial⟩
    · skip
      replace h := And.right h hc21
      refine GL.skip ⟨_, rfl, .inl ⟨_, rfl, hc21⟩⟩ rfl ?_
      refine GL.skip ⟨_, rfl, .inl ⟨_, rfl, hc21⟩⟩ rfl ?_
      refine GL.skip ⟨_, rfl, .inl ⟨_, rfl, hc21⟩⟩ rfl ?_
      refine GL.skip ⟨_, rfl, .inl ⟨_, rfl, hc21⟩⟩ rfl ?_
      refine GL.skip ⟨_, rfl, .inl ⟨_, rfl, hc21⟩⟩ rfl ?_
      refine GL.val trivial rfl (OV.pickF (b := b9) (v := .bool false) rfl hc21 rfl) ?_
      exact GL.jump (fun _ _ h => h) false h ⟨rfl, rfl, rfl, trivial⟩
  intro b18 H26 h
  replace h := hR20 b18 H26 h
  refine GL.val trivial rfl (OV.move (v := .bool b18) rfl) ?_
  obtain ⟨J28, h, hR29⟩ := h
  refine GL.cut (α := Bool) 6 J28 (fun b27 => [(30, .bool b27)]) ?_ ?_
  · rcases Bool.eq_false_or_eq_true b18 with hc30 | hc30
    · skip
      replace h := And.left h hc30
      refine GL.val ⟨_, _, rfl, rfl, hc30⟩ rfl (OV.fieldAddr (p := (b1, 0)) rfl rfl) ?_
      obtain ⟨x31, hr32, h⟩ := h
      refine GL.val ⟨_, _, rfl, rfl, hc30⟩ rfl (OV.load (p := ((b1, 0).1, (b1, 0).2 + 5)) rfl rfl hr32) ?_
      refine GL.val ⟨_, _, rfl, rfl, hc30⟩ rfl (OV.fieldAddr (p := (b3, 0)) rfl rfl) ?_
      obtain ⟨x33, hr34, h⟩ := h
      refine GL.val ⟨_, _, rfl, rfl, hc30⟩ rfl (OV.load (p := ((b3, 0).1, (b3, 0).2 + 5)) rfl rfl hr34) ?_
      refine GL.call h ⟨_, _, rfl, rfl, hc30⟩ rfl ok_slices_EqualFunc_api_FieldDef_api_FieldDef_api_FieldDef_api_FieldDef (vs := [slv x31, slv x33, .func (.func 76) (List.toArray []) (List.toArray [])]) rfl ?_
      rintro _ H36 ⟨r35, rfl, h⟩
      refine GL.val trivial rfl (OV.pickT (b := b18) (v := .bool r35) rfl hc30 rfl) ?_
      exact GL.jump (fun _ _ h => h) r35 h ⟨rfl, trivial⟩
    · skip
      replace h := And.right h hc30
      refine GL.skip ⟨_, rfl, .inl ⟨_, rfl, hc30⟩⟩ rfl ?_
      refine GL.skip ⟨_, rfl, .inl ⟨_, rfl, hc30⟩⟩ rfl ?_
      refine GL.skip ⟨_, rfl, .inl ⟨_, rfl, hc30⟩⟩ rfl ?_
      refine GL.skip ⟨_, rfl, .inl ⟨_, rfl, hc30⟩⟩ rfl ?_
      refine GL.skip ⟨_, rfl, .inl ⟨_, rfl, hc30⟩⟩ rfl ?_
      refine GL.val trivial rfl (OV.pickF (b := b18) (v := .bool false) rfl hc30 rfl) ?_
      exact GL.jump (fun _ _ h => h) false h ⟨rfl, trivial⟩
  intro b27 H37 h
  replace h := hR29 b27 H37 h
  refine GL.val trivial rfl (OV.assign (v := .bool b27) rfl) ?_
  refine GL.nil ?_
  exact GC.ret (fun _ _ hf hs => post_tmp1 rfl rfl hf hs ⟨b27, rfl, h⟩)

def sh_slices_EqualFunc_api_Rule_api_Rule_api_Rule_api_Rule (C : Ctx) (p_s1 : Sl) (p_s2 : Sl) (p_eq : Value) (K : Bool → Heap → Prop) (H : Heap) : Prop :=
  ift (((Sl.len p_s1 : Int) : Int) != (Sl.len p_s2 : Int))
 (K false H)
 (lp (α := Int) 0 H (fun x2 J3 H4 =>
 ift (decide ((x2 : Int) < (Sl.len p_s1 : Int)))
 (ixa p_s1 x2 fun p6 =>
 ldT H4 T_api_Rule.c (p6.1, p6.2 + (x2 : Int).toNat * 6) fun x11 =>
 nw (T_api_Rule.c T_api_Rule.zero) (fun b13 H14 =>
 stT (b13, 0) (T_api_Rule.c x11) (fun H15 =>
 ixa p_s2 x2 fun p16 =>
 ldT H15 T_api_Rule.c (p16.1, p16.2 + (x2 : Int).toNat * 6) fun x21 =>
 nw (T_api_Rule.c T_api_Rule.zero) (fun b23 H24 =>
 stT (b23, 0) (T_api_Rule.c x21) (fun H25 =>
 ldT H25 T_api_Rule.c (b13, 0) fun x26 =>
 ldT H25 T_api_Rule.c (b23, 0) fun x28 =>
 callU Tryz.prog C p_eq [.agg (T_api_Rule.c x26).toArray, .agg (T_api_Rule.c x28).toArray] H25 (fun v H31 => ∃ (r30 : Bool), v = .bool r30 ∧
 ift (!r30)
 (K false H31)
 (J3 (w .i64 (x2 + 1)) H31))) H24) H15) H14) H4)
 (K true H4)))

theorem ad_slices_EqualFunc_api_Rule_api_Rule_api_Rule_api_Rule (C : Ctx) (p_s1 : Sl) (p_s2 : Sl) (p_eq : Value) (K : Bool → Heap → Prop) (H : Heap) (h : sh_slices_EqualFunc_api_Rule_api_Rule_api_Rule_api_Rule C p_s1 p_s2 p_eq K H) : c_slices_EqualFunc_api_Rule_api_Rule_api_Rule_api_Rule C p_s1 p_s2 p_eq K H := by
  refine Spec.enter Tryz.func79 rfl Tryz.ntmps79 rfl ?_
  refine GC.sub [(0, slv p_s1), (1, slv p_s2), (2, p_eq)] ⟨rfl, rfl, rfl, trivial⟩ ?_
  refine GC.seq ?_
  refine GC.region ?_
  refine GL.val trivial rfl (OV.assign (v := .bool false) rfl) ?_
  refine GL.nil ?_
  refine GC.seq ?_
  refine GC.seq ?_
  refine GC.region ?_
  refine GL.val trivial rfl (OV.move (v := slv p_s1) rfl) ?_
  refine GL.val trivial rfl (OV.lenSl (s := p_s1) rfl rfl) ?_
  refine GL.val trivial rfl (OV.move (v := slv p_s2) rfl) ?_
  refine GL.val trivial rfl (OV.lenSl (s := p_s2) rfl rfl) ?_
  refine GL.val trivial rfl (OV.ibin (v := .bool (((Sl.len p_s1 : Int) : Int) != (Sl.len p_s2 : Int))) rfl rfl rfl) ?_
  refine GL.nil ?_
  refine GC.cond (b := ((Sl.len p_s1 : Int) : Int) != (Sl.len p_s2 : Int)) rfl (fun hc1 => ?_) (fun hc1 => ?_)
  · replace h := And.left h hc1
    refine GC.seq ?_
    refine GC.region ?_
    refine GL.val trivial rfl (OV.assign (v := .bool false) rfl) ?_
    refine GL.nil ?_
    exact GC.ret (fun _ _ hf hs => post_tmp1 rfl rfl hf hs ⟨false, rfl, h⟩)
  · replace h := And.right h hc1
    refine GC.skip ?_
    refine GC.seq ?_
    refine GC.seq ?_
    refine GC.region ?_
    refine GL.val trivial rfl (OV.move (v := slv p_s1) rfl) ?_
    refine GL.val trivial rfl (OV.lenSl (s := p_s1) rfl rfl) ?_
    refine GL.val trivial rfl (OV.move (v := .int .i64 0) rfl) ?_
    refine GL.nil ?_
    refine GC.block ?_
    refine GC.loop (α := Int) h (fun x2 => [(17, .int .i64 x2), (1, slv p_s2), (2, p_eq), (15, slv p_s1), (16, .int .i64 (Sl.len p_s1 : Int))]) ⟨rfl, rfl, rfl, rfl, rfl, trivial⟩ ?_
    intro x2 H4 J3 h
    refine GC.seq ?_
    refine GC.region ?_
    refine GL.val trivial rfl (OV.ibin (v := .bool (decide ((x2 : Int) < (Sl.len p_s1 : Int)))) rfl rfl rfl) ?_
    refine GL.nil ?_
    refine GC.seq ?_
    refine GC.cond (b := decide ((x2 : Int) < (Sl.len p_s1 : Int))) rfl (fun hc5 => ?_) (fun hc5 => ?_)
    · replace h := And.left h hc5
      refine GC.skip ?_
      refine GC.seq ?_
      refine GC.block ?_
      refine GC.seq ?_
      refine GC.region ?_
      refine GL.val trivial rfl (OV.move (v := .int .i64 x2) rfl) ?_
      obtain ⟨p6, ha7, hb8, hc9, hd10, h⟩ := h
      refine GL.val trivial rfl (OV.indexAddr (s := p_s1) rfl rfl rfl rfl ha7 hb8 hc9 hd10) ?_
      obtain ⟨x11, hr12, h⟩ := h
      refine GL.val trivial rfl (OV.loadT (p := (p6.1, p6.2 + (x2 : Int).toNat * 6)) (cs := T_api_Rule.c x11) rfl rfl rfl hr12) ?_
      refine GL.alloc (cs := T_api_Rule.c T_api_Rule.zero) h trivial rfl rfl rfl ?_
      intro b13 H14 h
      refine GL.val trivial rfl (OV.assign (v := .int .i64 x2) rfl) ?_
      refine GL.storeT (p := (b13, 0)) (vs := T_api_Rule.c x11) h trivial rfl rfl rfl rfl ?_
      intro H15 h
      refine GL.nil ?_
      refine GC.seq ?_
      refine GC.region ?_
      refine GL.val trivial rfl (OV.move (v := slv p_s2) rfl) ?_
      refine GL.val trivial rfl (OV.move (v := .int .i64 x2) rfl) ?_
      obtain ⟨p16, ha17, hb18, hc19, hd20, h⟩ := h
      refine GL.val trivial rfl (OV.indexAddr (s := p_s2) rfl rfl rfl rfl ha17 hb18 hc19 hd20) ?_
      obtain ⟨x21, hr22, h⟩ := h
      refine GL.val trivial rfl (OV.loadT (p := (p16.1, p16.2 + (x2 : Int).toNat * 6)) (cs := T_api_Rule.c x21) rfl rfl rfl hr22) ?_
      refine GL.alloc (cs := T_api_Rule.c T_api_Rule.zero) h trivial rfl rfl rfl ?_
      intro b23 H24 h
      refine GL.storeT (p := (b23, 0)) (vs := T_api_Rule.c x21) h trivial rfl rfl rfl rfl ?_
      intro H25 h
      refine GL.nil ?_
      refine GC.seq ?_
      refine GC.region ?_
      refine GL.val trivial rfl (OV.move (v := p_eq) rfl) ?_
      obtain ⟨x26, hr27, h⟩ := h
      refine GL.val trivial rfl (OV.loadT (p := (b13, 0)) (cs := T_api_Rule.c x26) rfl rfl rfl hr27) ?_
      obtain ⟨x28, hr29, h⟩ := h
      refine GL.val trivial rfl (OV.loadT (p := (b23, 0)) (cs := T_api_Rule.c x28) rfl rfl rfl hr29) ?_
      refine GL.callU (xv := p_eq) (vs := [.agg (T_api_Rule.c x26).toArray, .agg (T_api_Rule.c x28).toArray]) h trivial rfl rfl rfl ?_
      rintro _ H31 ⟨r30, rfl, h⟩
      refine GL.val trivial rfl (OV.not rfl) ?_
      refine GL.nil ?_
      refine GC.cond (b := !r30) rfl (fun hc32 => ?_) (fun hc32 => ?_)
      · replace h := And.left h hc32
        refine GC.seq ?_
        refine GC.region ?_
        refine GL.val trivial rfl (OV.assign (v := .bool false) rfl) ?_
        refine GL.nil ?_
        exact GC.ret (fun _ _ hf hs => post_tmp1 rfl rfl hf hs ⟨false, rfl, h⟩)
      · replace h := And.right h hc32
        refine GC.skip_to (fun _ _ h => h) ?_
        refine GC.region ?_
        refine GL.val trivial rfl (OV.ibin (v := .int .i64 (w .i64 (x2 + 1))) rfl rfl rfl) ?_
        refine GL.val trivial rfl (OV.move (v := .int .i64 (w .i64 (x2 + 1))) rfl) ?_
        exact GL.jump (fun _ _ h => h) (w .i64 (x2 + 1)) h ⟨rfl, rfl, rfl, rfl, rfl, trivial⟩
    · replace h := And.right h hc5
      refine GC.exit_to (fun _ _ h => h) ?_
      refine GC.seq ?_
      refine GC.region ?_
      refine GL.val trivial rfl (OV.assign (v := .bool true) rfl) ?_
      refine GL.nil ?_
      exact GC.ret (fun _ _ hf hs => post_tmp1 rfl rfl hf hs ⟨true, rfl, h⟩)

def sh_tree_Same_4 (C : Ctx) (p_x : T_api_Rule) (p_y : T_api_Rule) (K : Bool → Heap → Prop) (H : Heap) : Prop :=
  nw (T_api_Rule.c p_x) (fun b1 H2 =>
 nw (T_api_Rule.c p_y) (fun b3 H4 =>
 ldS H4 ((b1, 0).1, (b1, 0).2 + 2) fun x5 =>
 ldS H4 ((b3, 0).1, (b3, 0).2 + 2) fun x7 =>
 jn (α := Bool) (fun b9 H19 =>
 jn (α := Bool) (fun b20 H30 =>
 jn (α := Bool) (fun b31 H41 =>
 K b31 H41)
 (fun J32 => ift b20
 (ldL H30 ((b1, 0).1, (b1, 0).2 + 5) fun x35 =>
 ldL H30 ((b3, 0).1, (b3, 0).2 + 5) fun x37 =>
 c_slices_EqualFunc_api_Literal_api_Literal_api_Literal_api_Literal C x35 x37 (.func (.func 84) (List.toArray []) (List.toArray []) : Value) (fun r39 H40 =>
 J32 r39 H40) H30)
 (J32 false H30)))
 (fun J21 => ift b9
 (ldL H19 ((b1, 0).1, (b1, 0).2 + 4) fun x24 =>
 ldL H19 ((b3, 0).1, (b3, 0).2 + 4) fun x26 =>
 c_slices_Equal_string_string C x24 x26 (fun r28 H29 =>
 J21 r28 H29) H19)
 (J21 false H19)))
 (fun J10 => ift (x5 == x7)
 (ldL H4 ((b1, 0).1, (b1, 0).2 + 3) fun x13 =>
 ldL H4 ((b3, 0).1, (b3, 0).2 + 3) fun x15 =>
 c_slices_EqualFunc_api_Expr_api_Expr_api_Expr_api_Expr C x13 x15 (.func (.func 82) (List.toArray []) (List.toArray []) : Value) (fun r17 H18 =>
 J10 r17 H18) H4)
 (J10 false H4))) H2) H

theorem ad_tree_Same_4 (C : Ctx) (p_x : T_api_Rule) (p_y : T_api_Rule) (K : Bool → Heap → Prop) (H : Heap) (h : sh_tree_Same_4 C p_x p_y K H) : c_tree_Same_4 C p_x p_y K H := by
  refine Spec.enter Tryz.func80 rfl Tryz.ntmps80 rfl ?_
  refine GC.sub [(0, .agg (T_api_Rule.c p_x).toArray), (1, .agg (T_api_Rule.c p_y).toArray)] ⟨rfl, rfl, trivial⟩ ?_
  refine GC.seq ?_
  refine GC.region ?_
  refine GL.box (v := .agg (T_api_Rule.c p_x).toArray) (cs := T_api_Rule.c p_x) h trivial rfl rfl rfl ?_
  intro b1 H2 h
  refine GL.box (v := .agg (T_api_Rule.c p_y).toArray) (cs := T_api_Rule.c p_y) h trivial rfl rfl rfl ?_
  intro b3 H4 h
  refine GL.val trivial rfl (OV.assign (v := .bool false) rfl) ?_
  refine GL.nil ?_
  refine GC.seq ?_
  refine GC.region ?_
  refine GL.val trivial rfl (OV.fieldAddr (p := (b1, 0)) rfl rfl) ?_
  obtain ⟨x5, hr6, h⟩ := h
  refine GL.val trivial rfl (OV.load (p := ((b1, 0).1, (b1, 0).2 + 2)) rfl rfl hr6) ?_
  refine GL.val trivial rfl (OV.fieldAddr (p := (b3, 0)) rfl rfl) ?_
  obtain ⟨x7, hr8, h⟩ := h
  refine GL.val trivial rfl (OV.load (p := ((b3, 0).1, (b3, 0).2 + 2)) rfl rfl hr8) ?_
  refine GL.val trivial rfl (OV.sbin (a := x5) (b := x7) (v := .bool (x5 == x7)) rfl rfl rfl) ?_
  refine GL.val trivial rfl (OV.move (v := .bool (x5 == x7)) rfl) ?_
  obtain ⟨J10, h, hR11⟩ := h
  refine GL.cut (α := Bool) 6 J10 (fun b9 => [(16, .bool b9), (2, pv (some (b1, 0))), (3, pv (some (b3, 0)))]) ?_ ?_
  · rcases Bool.eq_false_or_eq_true (x5 == x7) with hc12 | hc12
    · skip
      replace h := And.left h hc12
      refine GL.val ⟨_, _, rfl, rfl, hc12⟩ rfl (OV.fieldAddr (p := (b1, 0)) rfl rfl) ?_
      obtain ⟨x13, hr14, h⟩ := h
      refine GL.val ⟨_, _, rfl, rfl, hc12⟩ rfl (OV.load (p := ((b1, 0).1, (b1, 0).2 + 3)) rfl rfl hr14) ?_
      refine GL.val ⟨_, _, rfl, rfl, hc12⟩ rfl (OV.fieldAddr (p := (b3, 0)) rfl rfl) ?_
      obtain ⟨x15, hr16, h⟩ := h
      refine GL.val ⟨_, _, rfl, rfl, hc12⟩ rfl (OV.load (p := ((b3, 0).1, (b3, 0).2 + 3)) rfl rfl hr16) ?_
      refine GL.call h ⟨_, _, rfl, rfl, hc12⟩ rfl ok_slices_EqualFunc_api_Expr_api_Expr_api_Expr_api_Expr (vs := [slv x13, slv x15, .func (.func 82) (List.toArray []) (List.toArray [])]) rfl ?_
      rintro _ H18 ⟨r17, rfl, h⟩
      refine GL.val trivial rfl (OV.pickT (b := x5 == x7) (v := .bool r17) rfl hc12 rfl) ?_
      exact GL.jump (fun _ _ h => h) r17 h ⟨rfl, rfl, rfl, trivial⟩
    · skip
      replace h := And.right h hc12
      refine GL.skip ⟨_, rfl, .inl ⟨_, rfl, hc12⟩⟩ rfl ?_
      refine GL.skip ⟨_, rfl, .inl ⟨_, rfl, hc12⟩⟩ rfl ?_
      refine GL.skip ⟨_, rfl, .inl ⟨_, rfl, hc12⟩⟩ rfl ?_
      refine GL.skip ⟨_, rfl, .inl ⟨_, rfl, hc12⟩⟩ rfl ?_
      refine GL.skip ⟨_, rfl, .inl ⟨_, rfl, hc12⟩⟩ rfl ?_
      refine GL.val trivial rfl (OV.pickF (b := x5 == x7) (v := .bool false) rfl hc12 rfl) ?_
      exact GL.jump (fun _ _ h => h) false h ⟨rfl, rfl, rfl, trivial⟩
  intro b9 H19 h
  replace h := hR11 b9 H19 h
  refine GL.val trivial rfl (OV.move (v := .bool b9) rfl) ?_
  obtain ⟨J21, h, hR22⟩ := h
  refine GL.cut (α := Bool) 6 J21 (fun b20 => [(23, .bool b20), (2, pv (some (b1, 0))), (3, pv (some (b3, 0)))]) ?_ ?_
  · rcases Bool.eq_false_or_eq_true b9 with hc23 | hc23
    · skip
      replace h := And.left h hc23
      refine GL.val ⟨_, _, rfl, rfl, hc23⟩ rfl (OV.fieldAddr (p := (b1, 0)) rfl rfl) ?_
      obtain ⟨x24, hr25, h⟩ := h
      refine GL.val ⟨_, _, rfl, rfl, hc23⟩ rfl (OV.load (p := ((b1, 0).1, (b1, 0).2 + 4)) rfl rfl hr25) ?_
      refine GL.val ⟨_, _, rfl, rfl, hc23⟩ rfl (OV.fieldAddr (p := (b3, 0)) rfl rfl) ?_
      obtain ⟨x26, hr27, h⟩ := h
      refine GL.val ⟨_, _, rfl, rfl, hc23⟩ rfl (OV.load (p := ((b3, 0).1, (b3, 0).2 + 4)) rfl rfl hr27) ?_
      refine GL.call h ⟨_, _, rfl, rfl, hc23⟩ rfl ok_slices_Equal_string_string (vs := [slv x24, slv x26]) rfl ?_
      rintro _ H29 ⟨r28, rfl, h⟩
      refine GL.val trivial rfl (OV.pickT (b := b9) (v := .bool r28) rfl hc23 rfl) ?_
      exact GL.jump (fun _ _ h => h) r28 h ⟨rfl, rfl, rfl, trivial⟩
    · skip
      replace h := And.right h hc23
      refine GL.skip ⟨_, rfl, .inl ⟨_, rfl, hc23⟩⟩ rfl ?_
      refine GL.skip ⟨_, rfl, .inl ⟨_, rfl, hc23⟩⟩ rfl ?_
      refine GL.skip ⟨_, rfl, .inl ⟨_, rfl, hc23⟩⟩ rfl ?_
      refine GL.skip ⟨_, rfl, .inl ⟨_, rfl, hc23⟩⟩ rfl ?_
      refine GL.skip ⟨_, rfl, .inl ⟨_, rfl, hc23⟩⟩ rfl ?_
      refine GL.val trivial rfl (OV.pickF (b := b9) (v := .bool false) rfl hc23 rfl) ?_
      exact GL.jump (fun _ _ h => h) false h ⟨rfl, rfl, rfl, trivial⟩
  intro b20 H30 h
  replace h := hR22 b20 H30 h
  refine GL.val trivial rfl (OV.move (v := .bool b20) rfl) ?_
  obtain ⟨J32, h, hR33⟩ := h
  refine GL.cut (α := Bool) 6 J32 (fun b31 => [(30, .bool b31)]) ?_ ?_
  · rcases Bool.eq_false_or_eq_true b20 with hc34 | hc34
    · skip
      replace h := And.left h hc34
      refine GL.val ⟨_, _, rfl, rfl, hc34⟩ rfl (OV.fieldAddr (p := (b1, 0)) rfl rfl) ?_
      obtain ⟨x35, hr36, h⟩ := h
      refine GL.val ⟨_, _, rfl, rfl, hc34⟩ rfl (OV.load (p := ((b1, 0).1, (b1, 0).2 + 5)) rfl rfl hr36) ?_
      refine GL.val ⟨_, _, rfl, rfl, hc34⟩ rfl (OV.fieldAddr (p := (b3, 0)) rfl rfl) ?_
      obtain ⟨x37, hr38, h⟩ := h
      refine GL.val ⟨_, _, rfl, rfl, hc34⟩ rfl (OV.load (p := ((b3, 0).1, (b3, 0).2 + 5)) rfl rfl hr38) ?_
      refine GL.call h ⟨_, _, rfl, rfl, hc34⟩ rfl ok_slices_EqualFunc_api_Literal_api_Literal_api_Literal_api_Literal (vs := [slv x35, slv x37, .func (.func 84) (List.toArray []) (List.toArray [])]) rfl ?_
      rintro _ H40 ⟨r39, rfl, h⟩
      refine GL.val trivial rfl (OV.pickT (b := b20) (v := .bool r39) rfl hc34 rfl) ?_
      exact GL.jump (fun _ _ h => h) r39 h ⟨rfl, trivial⟩
    · skip
      replace h := And.right h hc34
      refine GL.skip ⟨_, rfl, .inl ⟨_, rfl, hc34⟩⟩ rfl ?_
      refine GL.skip ⟨_, rfl, .inl ⟨_, rfl, hc34⟩⟩ rfl ?_
      refine GL.skip ⟨_, rfl, .inl ⟨_, rfl, hc34⟩⟩ rfl ?_
      refine GL.skip ⟨_, rfl, .inl ⟨_, rfl, hc34⟩⟩ rfl ?_
      refine GL.skip ⟨_, rfl, .inl ⟨_, rfl, hc34⟩⟩ rfl ?_
      refine GL.val trivial rfl (OV.pickF (b := b20) (v := .bool false) rfl hc34 rfl) ?_
      exact GL.jump (fun _ _ h => h) false h ⟨rfl, trivial⟩
  intro b31 H41 h
  replace h := hR33 b31 H41 h
  refine GL.val trivial rfl (OV.assign (v := .bool b31) rfl) ?_
  refine GL.nil ?_
  exact GC.ret (fun _ _ hf hs => post_tmp1 rfl rfl hf hs ⟨b31, rfl, h⟩)

end Sx
end


/-
  From a contract over the ghost heap to a law's post; what the arguments' reading tells of the ghost heap.
-/
import Derived.Test.YtlpjpjbgfffffaaDoorSxAny
import Derived.ProofKit
import Derived.OpenShut
import Derived.ShutString
import Derived.ChangeOld
import Derived.Below
import Derived.WideKeyArgs
import Derived.Deep.Slices
set_option linter.unusedVariables false
namespace Sx
open Go

def heapOf (W : World) : Heap := fun b => (W.heap[b]?).map fun o => (false, match o with | .cells c _ _ => .row c.toList | o => .obj o)
def ctxOf (W : World) : Ctx := ⟨W.heap, W.output, W.os⟩

theorem st_heapOf (W : World) : St (ctxOf W) W (heapOf W) := by
  refine ⟨fun b m g h => ?_, fun b g h => ?_, fun _ _ => rfl, rfl, rfl, fun _ => none, fun b m T e bs h => ?_, fun b b' g m T e bs m' T' e' bs' _ _ h => by cases h⟩
  rotate_left 2
  · simp only [heapOf, Option.map_eq_some_iff, Prod.mk.injEq] at h
    obtain ⟨o, ho, hm, hg⟩ := h
    cases o <;> cases hg
  · simp only [heapOf, Option.map_eq_some_iff, Prod.mk.injEq] at h
    obtain ⟨o, ho, hm, hg⟩ := h
    refine ⟨o, ho, ?_⟩
    subst hm
    cases o <;> simp only at hg <;> subst hg
    · exact ⟨by simp, fun h => by cases h⟩
    all_goals exact ⟨rfl, fun _ _ _ h => by cases h⟩
  · simp only [heapOf, Option.map_eq_some_iff, Prod.mk.injEq] at h
    obtain ⟨o, ho, hm, hg⟩ := h
    cases hm

theorem heapOf_im (W : World) (b : Nat) (e : Bool × GO) (h : heapOf W b = some e) : (e.1 = false ∧ ∃ c, e.2 = .row c) ∨ (e.1 = false ∧ e.2.cells? = none) := by
  simp only [heapOf, Option.map_eq_some_iff] at h
  obtain ⟨o, _, rfl⟩ := h
  cases o
  · exact .inl ⟨rfl, _, rfl⟩
  all_goals exact .inr ⟨rfl, rfl⟩

theorem St.sameAt {W W' : World} {H : Heap} (h : St (ctxOf W) W' H) {p : MemPlace} (hp : p.block < W.heap.size) : W.sameAt W' p := by
  have hb : W'.heap[p.block]? = W.heap[p.block]? := h.old p.block hp
  cases p with
  | cell b o => exact World.cell?_of_block (w := W) hb
  | map b => exact hb

theorem St.frame {W W' : World} {H : Heap} (h : St (ctxOf W) W' H) (may : MemPlace → Prop) : W.keptBut W' may := by
  refine ⟨h.os, h.out, fun i hi => ?_⟩
  rw [show W'.heap[i]? = W.heap[i]? from h.old i hi]
  split <;> simp_all

section
variable {H : Type} {enc : TypeId × Value → H} {P : Program}

theorem trod_kept (hl : laidOutB P = true) {W W' : World} {G : Heap} (hst : St (ctxOf W) W' G) : ∀ {ts : List TypeId} {vs : List Value} {ds : List (DataW H)} {ps : List MemPlace}, ts.all (fun t => P.readableRec t && decide (t < P.types.size)) = true →
    DataW.TrodAll enc P W 0 (fun _ => true) true ts vs ds ps → (∀ x ∈ ps, x.block < W.heap.size) → DataW.TrodAll enc P W' 0 (fun b => decide (b < W.heap.size)) true ts vs ds ps
  | [], vs, ds, ps, _, h, _ => by
    cases vs <;> cases ds <;> simp_all [DataW.TrodAll]
  | t :: ts, vs, ds, ps, ht, h, hlt => by
    obtain ⟨v, vs', d, ds', p, q, rfl, rfl, rfl, h1, h2⟩ := ChangeShapes.trodAll_cons h
    simp only [List.all_cons, Bool.and_eq_true, decide_eq_true_eq] at ht
    exact trodAll_cons_mk (WideElems.Trod_stays hl ht.1.1 ht.1.2 h1 (fun x hx => hst.sameAt (hlt x (List.mem_append_left _ hx))) (fun x hx => by simpa using hlt x (List.mem_append_left _ hx)))
      (trod_kept hl hst ht.2 h2 (fun x hx => hlt x (List.mem_append_right _ hx)))

mutual
def sizeD {H : Type} : DataW H → Nat
  | .lit (.string bytes) => bytes.length + 1
  | .lit _ => 1
  | .nil => 1
  | .ptr d => sizeD d + 1
  | .slice elems spare => sizeDs elems + sizeDs spare + 1
  | .agg parts => sizeDs parts + 1
  | .iface _ d => sizeD d + 1
  | .map _ => 1
  | .held _ => 1
def sizeDs {H : Type} : List (DataW H) → Nat
  | [] => 0
  | d :: r => sizeD d + sizeDs r
end
theorem sizeD_pos {H : Type} (d : DataW H) : 1 ≤ sizeD d := by
  cases d <;> try (simp [sizeD]; done)
  rename_i l
  cases l <;> simp [sizeD]
theorem sizeDs_mem {H : Type} : ∀ {l : List (DataW H)} {d : DataW H}, d ∈ l → sizeD d ≤ sizeDs l
  | e :: l, d, h => by
    rcases List.mem_cons.1 h with rfl | h
    · simp [sizeDs]
    · have := sizeDs_mem h; simp only [sizeDs]; omega
theorem sizeDs_len {H : Type} : ∀ (l : List (DataW H)), l.length ≤ sizeDs l
  | [] => by simp [sizeDs]
  | d :: l => by have := sizeDs_len l; have := sizeD_pos d; simp only [sizeDs, List.length_cons]; omega

/-- what a call's value of a type, of size B at most, says of the memory there -/
def Tr (P : Program) (W : World) (B : Nat) (n : Nat) (t : TypeId) (cs : List Value) : Prop :=
  ∃ (H : Type) (enc : TypeId × Value → H) (x : DataW H × List MemPlace), DataW.trod enc P W 0 (fun _ => true) true n t cs = some x ∧ sizeD x.1 ≤ B

theorem Tr.of {W : World} {t : TypeId} {v : Value} {d : DataW H} {p : List MemPlace} (h : DataW.Trod enc P W 0 (fun _ => true) true t v d p) : ∃ n, Tr P W (sizeD d) n t v.cells.toList := by
  obtain ⟨n, hn⟩ := h
  exact ⟨n, H, enc, _, hn, Nat.le_refl _⟩

theorem Tr.int {W : World} {B n : Nat} {t : TypeId} {cs : List Value} {k : IntKind} (h : Tr P W B n t cs) (ht : P.underlying t = some (.int k)) : ∃ x, cs = [.int k x] ∧ (Lit.int k x).wf = true := by
  obtain ⟨H, enc, x, h, hB⟩ := h
  obtain ⟨n, h1, _, h2⟩ := DataW.trod_int ht h
  exact ⟨n, h1, h2⟩

theorem Tr.bool {W : World} {B n : Nat} {t : TypeId} {cs : List Value} (h : Tr P W B n t cs) (ht : P.underlying t = some .bool) : ∃ x, cs = [.bool x] := by
  obtain ⟨H, enc, x, h, hB⟩ := h
  obtain ⟨b, h1, _⟩ := DataW.trod_bool ht h
  exact ⟨b, h1⟩

theorem Tr.str {W : World} {B n : Nat} {t : TypeId} {cs : List Value} (h : Tr P W B n t cs) (ht : P.underlying t = some .string) : ∃ s : Str, cs = [sv s] ∧ s.length ≤ maxLen ∧ s.length ≤ B := by
  obtain ⟨H, enc, x, h, hB⟩ := h
  obtain ⟨s, h1, hx, h2⟩ := DataW.trod_string ht h
  refine ⟨s.data.toList, ?_, by rw [Array.length_toList]; exact h2, ?_⟩
  · rw [h1]; simp [sv]
  · rw [hx] at hB; simp only [sizeD] at hB; omega

theorem rd_heapOf {W : World} {p : Nat × Nat} {v : Value} (h : W.cell? (adv p) = some v) : rd (heapOf W) p = some v := by
  simp only [World.cell?, adv] at h
  simp only [rd, heapOf]
  cases hb : W.heap[p.1]? with
  | none => simp [hb] at h
  | some o => cases o <;> simp_all [GO.cells?]

theorem rds_append {H : Heap} : ∀ {a b : List Value} {p : Nat × Nat}, rds H p (a ++ b) ↔ rds H p a ∧ rds H (p.1, p.2 + a.length) b
  | [], b, p => by simp [rds]
  | x :: a, b, p => by
    simp only [List.cons_append, rds, List.length_cons, rds_append (a := a) (p := (p.1, p.2 + 1)), and_assoc]
    rw [show p.2 + (a.length + 1) = p.2 + 1 + a.length by omega]

theorem rds_flat {H : Heap} {z : Nat} : ∀ {css : List (List Value)} {p : Nat × Nat}, (∀ c ∈ css, c.length = z) → (∀ i c, css[i]? = some c → rds H (p.1, p.2 + i * z) c) → rds H p css.flatten
  | [], p, _, _ => trivial
  | c :: css, p, hz, h => by
    rw [List.flatten_cons, rds_append]
    have hc := hz c (List.mem_cons_self ..)
    refine ⟨by simpa using h 0 c (by simp), rds_flat (p := (p.1, p.2 + c.length)) (fun c hc => hz c (List.mem_cons_of_mem _ hc)) fun i d hd => ?_⟩
    have := h (i + 1) d (by simpa using hd)
    rw [show p.2 + c.length + i * z = p.2 + (i + 1) * z by rw [hc, Nat.add_mul]; omega]
    exact this

theorem cell_nospot {W : World} {a : Addr} {v : Value} (h : W.cell? a = some v) : a.spot = none := by
  obtain ⟨b, o, s⟩ := a
  cases s with
  | none => rfl
  | some s => simp only [World.cell?] at h; split at h <;> simp_all

theorem listOf {α : Type} {n : Nat} {p : Nat → α → Prop} : (∀ i, i < n → ∃ x, p i x) → ∃ l : List α, l.length = n ∧ ∀ i x, l[i]? = some x → p i x := by
  induction n with
  | zero => intro _; exact ⟨[], rfl, fun i x h => by simp at h⟩
  | succ n ih =>
    intro h
    obtain ⟨l, h1, h2⟩ := ih fun i hi => h i (by omega)
    obtain ⟨x, hx⟩ := h n (by omega)
    refine ⟨l ++ [x], by simp [h1], fun i y hy => ?_⟩
    by_cases hi : i < n
    · rw [List.getElem?_append_left (by omega)] at hy; exact h2 i y hy
    · have hin : i = n := by
        have := (List.getElem?_eq_some_iff.1 hy).1
        simp [h1] at this; omega
      subst hin
      rw [List.getElem?_append_right (by omega), h1] at hy
      simp at hy; subst hy; exact hx

/-- a slice that came in: its elements' cells -/
theorem Tr.slice {W : World} {B n : Nat} {t e : TypeId} {cs : List Value} {z : Nat} (h : Tr P W B n t cs) (ht : P.underlying t = some (.slice e)) (hz : P.cellsOf e = z) (hz0 : 0 < z) :
    ∃ (s : Sl) (css : List (List Value)) (m : Nat), m < n ∧ cs = [slv s] ∧ s.len ≤ s.cap ∧ s.cap ≤ maxLen ∧ s.len ≤ B ∧ css.length = s.len ∧ rdsl (heapOf W) s css.flatten ∧ ∀ c ∈ css, c.length = z ∧ Tr P W B m e c := by
  obtain ⟨H, enc, x, h, hB⟩ := h
  rcases DataW.trod_slice ht h with ⟨h0, _⟩ | ⟨a, len, cap, elems, rest, m, rfl, hcs, hx, hb, hl, hm, hlen, hel, hsp, hns⟩
  · have : 0 < n := by cases n with
      | zero => simp [DataW.trod] at h
      | succ n => omega
    exact ⟨Sl.nil, [], 0, this, h0, Nat.le_refl _, by simp [Sl.nil], by simp [Sl.nil], rfl, .inl rfl, fun c hc => by cases hc⟩
  · subst hz
    have hB2 : sizeDs (elems.map (·.1)) + 1 ≤ B := by rw [hx] at hB; simp only [sizeD] at hB; omega
    have hBl := sizeDs_len (elems.map (·.1))
    rw [List.length_map] at hBl
    have hall : ∀ i, i < len → ∃ c, W.cells? 0 (a.add (i * P.cellsOf e)) (P.cellsOf e) = some c ∧ Tr P W B m e c := by
      intro i hi
      have h1 := hel i hi
      have h2 : i < elems.length := by omega
      rw [List.getElem?_eq_getElem h2] at h1
      rw [Option.bind_eq_some_iff] at h1
      obtain ⟨c, hc, ht⟩ := h1
      have := sizeDs_mem (List.mem_map_of_mem (f := (·.1)) (List.getElem_mem h2))
      exact ⟨c, hc, H, enc, _, ht, by omega⟩
    obtain ⟨css, hcl, hcss⟩ := listOf hall
    obtain ⟨b, o, sp⟩ := a
    refine ⟨⟨some (b, o), len, cap, sp⟩, css, m, Nat.lt_succ_self _, by rw [hcs]; rfl, hl, hm, by dsimp only; omega, hcl, ?_, fun c hc => ?_⟩
    · rcases Nat.eq_zero_or_pos len with h0 | h0
      · left
        have : css = [] := List.length_eq_zero_iff.1 (by omega)
        simp [this]
      · obtain ⟨c0, hc0, _⟩ := hall 0 h0
        obtain ⟨_, hl0, hcell0⟩ := World.cells?_some hc0
        have hsp0 : sp = none := by
          have h1 := hcell0 0 hz0
          rw [List.getElem?_eq_getElem (by omega)] at h1
          have := cell_nospot h1
          simpa [Addr.add] using this
        subst hsp0
        right
        refine ⟨rfl, (b, o), rfl, rds_flat (z := P.cellsOf e) (fun c hc => ?_) fun i c hc => ?_⟩
        · obtain ⟨i, hi, rfl⟩ := List.getElem_of_mem hc
          obtain ⟨h1, _⟩ := hcss i _ (List.getElem?_eq_getElem hi)
          exact (World.cells?_some h1).2.1
        · obtain ⟨h1, _⟩ := hcss i c hc
          obtain ⟨_, hcl1, hcell⟩ := World.cells?_some h1
          refine rds_of fun j v hj => rd_heapOf ?_
          have hjl : j < P.cellsOf e := by rw [← hcl1]; exact (List.getElem?_eq_some_iff.1 hj).1
          have h2 := hcell j hjl
          rw [hj] at h2
          rw [← h2]
          have e1 : (⟨b, o, none⟩ : Addr) = adv (b, o) := rfl
          rw [e1, adv_add, adv_add]
    · obtain ⟨i, hi, rfl⟩ := List.getElem_of_mem hc
      obtain ⟨h1, h2⟩ := hcss i _ (List.getElem?_eq_getElem hi)
      exact ⟨(World.cells?_some h1).2.1, h2⟩

/-- a struct's fields -/
theorem Tr.struct {W : World} {B n : Nat} {t : TypeId} {fs : Array Field} {cs : List Value} (h : Tr P W B n t cs) (ht : P.underlying t = some (.struct fs)) :
    cs.length = P.cellsOf t ∧ ∃ m, n = m + 1 ∧ ∀ (i : Nat) (f : Field), fs[i]? = some f → Tr P W B m f.type ((cs.drop f.offset).take (P.cellsOf f.type)) := by
  obtain ⟨H, enc, x, h, hB⟩ := h
  obtain ⟨xs, m, rfl, hx, hl, hxl, hf⟩ := DataW.trod_struct ht h
  refine ⟨hl, m, rfl, fun i f hi => ?_⟩
  have h1 := hf i f hi
  have h2 : i < fs.size := (Array.getElem?_eq_some_iff.1 hi).1
  rw [List.getElem?_eq_getElem (by omega)] at h1
  have := sizeDs_mem (List.mem_map_of_mem (f := (·.1)) (List.getElem_mem (show i < xs.length by omega)))
  exact ⟨H, enc, _, h1, by rw [hx] at hB; simp only [sizeD] at hB; omega⟩

/-! ### an argument of a call -/
theorem arg_str {W : World} {base : Nat} {t : TypeId} {v : Value} {d : DataW H} {p : List MemPlace} (ht : P.underlying t = some .string) (hv : Value.okWide P W .any base t v) (h : DataW.Trod enc P W 0 (fun _ => true) true t v d p) : ∃ s : Str, v = sv s ∧ s.length ≤ maxLen ∧ s.length ≤ sizeD d := by
  obtain ⟨s, rfl⟩ := WideShapes.okWide_string ht hv
  obtain ⟨n, hn⟩ := Tr.of h
  obtain ⟨s', h1, h2⟩ := hn.str ht
  refine ⟨s', ?_, h2⟩
  simpa [Value.cells] using h1
theorem arg_int {W : World} {base : Nat} {t : TypeId} {k : IntKind} {v : Value} {d : DataW H} {p : List MemPlace} (ht : P.underlying t = some (.int k)) (hv : Value.okWide P W .any base t v) (h : DataW.Trod enc P W 0 (fun _ => true) true t v d p) : ∃ x : Int, v = .int k x ∧ (Lit.int k x).wf = true := by
  obtain ⟨x, rfl⟩ := WideShapes.okWide_int ht hv
  obtain ⟨n, hn⟩ := Tr.of h
  obtain ⟨y, h1, h2⟩ := hn.int ht
  refine ⟨y, ?_, h2⟩
  simpa [Value.cells] using h1
theorem arg_bool {W : World} {base : Nat} {t : TypeId} {v : Value} (ht : P.underlying t = some .bool) (hv : Value.okWide P W .any base t v) : ∃ x : Bool, v = .bool x := WideShapes.okWide_bool ht hv
theorem arg_slice {W : World} {base : Nat} {t e : TypeId} {z : Nat} {v : Value} {d : DataW H} {p : List MemPlace} (ht : P.underlying t = some (.slice e)) (hz : P.cellsOf e = z) (hz0 : 0 < z) (hv : Value.okWide P W .any base t v) (h : DataW.Trod enc P W 0 (fun _ => true) true t v d p) :
    ∃ (s : Sl) (css : List (List Value)) (m : Nat), v = slv s ∧ s.len ≤ s.cap ∧ s.cap ≤ maxLen ∧ s.len ≤ sizeD d ∧ css.length = s.len ∧ rdsl (heapOf W) s css.flatten ∧ ∀ c ∈ css, c.length = z ∧ Tr P W (sizeD d) m e c := by
  obtain ⟨a, l, c, rfl⟩ := WideShapes.okWide_slice ht hv
  obtain ⟨n, hn⟩ := Tr.of h
  obtain ⟨s, css, m, _, h1, h2⟩ := hn.slice ht hz hz0
  refine ⟨s, css, m, ?_, h2⟩
  simpa [Value.cells] using h1
theorem arg_struct {W : World} {base : Nat} {t : TypeId} {fs : Array Field} {v : Value} {d : DataW H} {p : List MemPlace} (ht : P.underlying t = some (.struct fs)) (hv : Value.okWide P W .any base t v) (h : DataW.Trod enc P W 0 (fun _ => true) true t v d p) :
    ∃ (cs : List Value) (n : Nat), v = .agg cs.toArray ∧ cs.length = P.cellsOf t ∧ Tr P W (sizeD d) n t cs := by
  obtain ⟨cs, rfl, hl⟩ := WideShapes.okWide_struct ht hv
  obtain ⟨n, hn⟩ := Tr.of h
  exact ⟨cs.toList, n, by simp, by simpa using hl, by simpa [Value.cells] using hn⟩

/-! ### elements -/
theorem Tr.strs {W : World} {B m : Nat} {e : TypeId} {css : List (List Value)} (ht : P.underlying e = some .string) (h : ∀ c ∈ css, c.length = 1 ∧ Tr P W B m e c) : ∃ l : List Str, css.flatten = l.map sv ∧ l.length = css.length ∧ ∀ s ∈ l, s.length ≤ maxLen ∧ s.length ≤ B := by
  induction css with
  | nil => exact ⟨[], rfl, rfl, fun s hs => by cases hs⟩
  | cons c css ih =>
    obtain ⟨l, h1, h2, h3⟩ := ih fun c hc => h c (List.mem_cons_of_mem _ hc)
    obtain ⟨s, hs, hl⟩ := (h c (List.mem_cons_self ..)).2.str ht
    refine ⟨s :: l, by simp [h1, hs], by simp [h2], fun x hx => ?_⟩
    rcases List.mem_cons.1 hx with rfl | hx
    · exact hl
    · exact h3 x hx
theorem Tr.bytes {W : World} {B m : Nat} {e : TypeId} {css : List (List Value)} (ht : P.underlying e = some (.int .u8)) (h : ∀ c ∈ css, c.length = 1 ∧ Tr P W B m e c) : ∃ l : Str, css.flatten = bytesV l ∧ l.length = css.length := by
  induction css with
  | nil => exact ⟨[], rfl, rfl⟩
  | cons c css ih =>
    obtain ⟨l, h1, h2⟩ := ih fun c hc => h c (List.mem_cons_of_mem _ hc)
    obtain ⟨x, hx, hw⟩ := (h c (List.mem_cons_self ..)).2.int ht
    have hr : 0 ≤ x ∧ x ≤ 255 := by simpa [Lit.wf, IntKind.min, IntKind.max, IntKind.signed, IntKind.bits] using hw
    refine ⟨UInt8.ofNat x.toNat :: l, ?_, by simp [h2]⟩
    simp [h1, hx, bytesV]
    omega
theorem Tr.ints {W : World} {B m : Nat} {e : TypeId} {k : IntKind} {css : List (List Value)} (ht : P.underlying e = some (.int k)) (h : ∀ c ∈ css, c.length = 1 ∧ Tr P W B m e c) : ∃ l : List Int, css.flatten = l.map (fun x => Value.int k x) ∧ l.length = css.length ∧ ∀ x ∈ l, (Lit.int k x).wf = true := by
  induction css with
  | nil => exact ⟨[], rfl, rfl, fun s hs => by cases hs⟩
  | cons c css ih =>
    obtain ⟨l, h1, h2, h3⟩ := ih fun c hc => h c (List.mem_cons_of_mem _ hc)
    obtain ⟨x, hx, hw⟩ := (h c (List.mem_cons_self ..)).2.int ht
    refine ⟨x :: l, by simp [h1, hx], by simp [h2], fun y hy => ?_⟩
    rcases List.mem_cons.1 hy with rfl | hy
    · exact hw
    · exact h3 y hy
theorem Tr.bools {W : World} {B m : Nat} {e : TypeId} {css : List (List Value)} (ht : P.underlying e = some .bool) (h : ∀ c ∈ css, c.length = 1 ∧ Tr P W B m e c) : ∃ l : List Bool, css.flatten = l.map (fun x => Value.bool x) ∧ l.length = css.length := by
  induction css with
  | nil => exact ⟨[], rfl, rfl⟩
  | cons c css ih =>
    obtain ⟨l, h1, h2⟩ := ih fun c hc => h c (List.mem_cons_of_mem _ hc)
    obtain ⟨x, hx⟩ := (h c (List.mem_cons_self ..)).2.bool ht
    exact ⟨x :: l, by simp [h1, hx], by simp [h2]⟩
/-- elements that are slices of one-cell elements, read by f -/
theorem Tr.slices {W : World} {B m : Nat} {e e2 : TypeId} {css : List (List Value)} {z : Nat} (ht : P.underlying e = some (.slice e2)) (hz : P.cellsOf e2 = z) (hz0 : 0 < z) (h : ∀ c ∈ css, c.length = 1 ∧ Tr P W B m e c) :
    ∃ ss : List Sl, css.flatten = ss.map slv ∧ ss.length = css.length ∧ ∀ s ∈ ss, ∃ (css : List (List Value)) (m : Nat), s.len ≤ s.cap ∧ s.cap ≤ maxLen ∧ s.len ≤ B ∧ css.length = s.len ∧ rdsl (heapOf W) s css.flatten ∧ ∀ c ∈ css, c.length = z ∧ Tr P W B m e2 c := by
  induction css with
  | nil => exact ⟨[], rfl, rfl, fun s hs => by cases hs⟩
  | cons c css ih =>
    obtain ⟨l, h1, h2, h3⟩ := ih fun c hc => h c (List.mem_cons_of_mem _ hc)
    obtain ⟨s, css', m', _, hs, hl⟩ := (h c (List.mem_cons_self ..)).2.slice ht hz hz0
    refine ⟨s :: l, by simp [h1, hs], by simp [h2], fun y hy => ?_⟩
    rcases List.mem_cons.1 hy with rfl | hy
    · exact ⟨css', m', hl⟩
    · exact h3 y hy
end
end Sx

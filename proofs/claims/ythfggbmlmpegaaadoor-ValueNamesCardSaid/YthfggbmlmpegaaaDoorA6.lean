/-
  Texts of this family, one behind the other: EvV.
-/
import Derived.Test.YthfggbmlmpegaaaDoorA5
noncomputable section
set_option linter.unusedVariables false
set_option linter.unusedSimpArgs false
set_option maxRecDepth 10000
namespace Sx
open Go Go.Proofs
def rdCs (A : AS) : Nat → List AV → Option (List V)
  | 0, _ => none
  | _ + 1, [] => some []
  | n + 1, x :: y :: z :: l :: rest => (match x, y, z with
    | .int .u8 k, .int .i64 m, .str s => (match (match l with
        | .sl p len _ => (match A.slc p (len * 4) with | some cs => rdCs A n cs | none => none)
        | .emp => some []
        | _ => none), rdCs A n rest with
      | some vs, some ws => some (.mk k m s vs :: ws)
      | _, _ => none)
    | _, _, _ => none)
  | _, _ => none
def rdR (A : AS) (n : Nat) : AV → Option (List V)
  | .sl p len _ => (match A.slc p (len * 4) with | some cs => rdCs A n cs | none => none)
  | .emp => some []
  | _ => none
def rdV (A : AS) (n : Nat) : AV → Option V
  | .agg cs => (match rdCs A n cs with | some [v] => some v | _ => none)
  | _ => none
section
variable {e : Env} {F H : Heap} {A : AS}
theorem rdCs_ok (hE : Emb e F A H) : ∀ (n : Nat) {cs : List AV} {vs : List V} {us : List Value}, rdCs A n cs = some vs → Dns e cs us → ∃ xs : List TV, us = xs.flatMap T_api_Value.c ∧ VsAre H vs xs
  | 0, cs, vs, us, h, _ => by simp [rdCs] at h
  | n + 1, [], vs, us, h, hd => by
    simp only [rdCs, Option.some.injEq] at h
    subst h
    cases hd
    exact ⟨[], rfl, trivial⟩
  | n + 1, [_], _, _, h, _ => by simp [rdCs] at h
  | n + 1, [_, _], _, _, h, _ => by simp [rdCs] at h
  | n + 1, [_, _, _], _, _, h, _ => by simp [rdCs] at h
  | n + 1, x :: y :: z :: l :: rest, vs, us, h, hd => by
    unfold rdCs at h
    split at h <;> try (cases h; done)
    rename_i k m s
    split at h <;> try (cases h; done)
    rename_i vl ws hl hr
    injection h with h
    subst h
    cases hd with
    | cons d1 hd =>
    cases hd with
    | cons d2 hd =>
    cases hd with
    | cons d3 hd =>
    cases hd with
    | cons d4 hd =>
    cases d1; cases d2; cases d3
    obtain ⟨xs, rfl, h2⟩ := rdCs_ok hE n hr hd
    rename_i u4
    have key : ∃ t : Sl, u4 = slv t ∧ VRow H t vl := by
      cases d4 with
      | sl hs =>
        dsimp only at hl
        split at hl <;> try (cases hl; done)
        rename_i cs hcs
        obtain ⟨us, g1, g2, g3⟩ := hE.slc hs hcs
        obtain ⟨ys, rfl, g4⟩ := rdCs_ok hE n hl g2
        refine ⟨_, rfl, ys, g1, ?_, g4⟩
        have : ((ys.flatMap T_api_Value.c).length) = ys.length * 4 := flat4 ys
        rw [hs.ll]; omega
      | emp he =>
        injection hl with hl
        subst hl
        exact ⟨_, rfl, [], .inl rfl, he.1, trivial⟩
      | _ => cases hl
    obtain ⟨t, rfl, ht⟩ := key
    exact ⟨⟨k, m, s, t⟩ :: xs, rfl, VIs_iff.2 ⟨rfl, rfl, rfl, ht⟩, h2⟩
theorem rdR_ok (hE : Emb e F A H) {n : Nat} {a : AV} {vs : List V} {u : Value} (h : rdR A n a = some vs) (hd : Dn e a u) : ∃ t : Sl, u = slv t ∧ VRow H t vs := by
  cases hd with
  | sl hs =>
    simp only [rdR] at h
    split at h <;> try (cases h; done)
    rename_i cs hcs
    obtain ⟨us, g1, g2, g3⟩ := hE.slc hs hcs
    obtain ⟨ys, rfl, g4⟩ := rdCs_ok hE n h g2
    refine ⟨_, rfl, ys, g1, ?_, g4⟩
    have : ((ys.flatMap T_api_Value.c).length) = ys.length * 4 := flat4 ys
    rw [hs.ll]; omega
  | emp he =>
    simp only [rdR, Option.some.injEq] at h
    subst h
    exact ⟨_, rfl, [], .inl rfl, he.1, trivial⟩
  | _ => simp [rdR] at h
theorem rdV_ok (hE : Emb e F A H) {n : Nat} {a : AV} {v : V} {u : Value} (h : rdV A n a = some v) (hd : Dn e a u) : ∃ x : TV, u = .agg (T_api_Value.c x).toArray ∧ VIs H v x := by
  cases hd with
  | agg hs =>
    simp only [rdV] at h
    split at h <;> try (cases h; done)
    rename_i w hw
    injection h with h
    subst h
    obtain ⟨xs, rfl, g⟩ := rdCs_ok hE n hw hs
    match xs, g with
    | [x], g => exact ⟨x, by simp, g.1⟩
    | [], g => exact g.elim
    | _ :: _ :: _, g => exact g.2.elim
  | _ => simp [rdV] at h
end
mutual
def vbB : V → Bool
  | .mk k n s l => decide (0 ≤ k) && (decide (k ≤ 255) && (decide (-9223372036854775808 ≤ n) && (decide (n ≤ 9223372036854775807) && (Nat.ble s.length 140737488355328 && (Nat.ble l.length 140737488355328 && vbsB l)))))
def vbsB : List V → Bool
  | [] => true
  | v :: l => vbB v && vbsB l
end
mutual
theorem vbB_ok : ∀ {v : V}, vbB v = true → VB v
  | .mk k n s l, h => by
    simp only [vbB, Bool.and_eq_true, decide_eq_true_eq] at h
    obtain ⟨h1, h2, h3, h4, h5, h6, h7⟩ := h
    exact ⟨⟨h1, h2⟩, ⟨h3, h4⟩, ble_t h5, ble_t h6, vbsB_ok h7⟩
theorem vbsB_ok : ∀ {l : List V}, vbsB l = true → VBs l
  | [], _ => trivial
  | v :: l, h => by
    simp only [vbsB, Bool.and_eq_true] at h
    exact ⟨vbB_ok h.1, vbsB_ok h.2⟩
end
def ddK : Nat → Nat → Str
  | 0, _ => []
  | n + 1, u => bif Nat.blt u 10 then [UInt8.ofNat (48 + u)] else ddK n (u / 10) ++ [UInt8.ofNat (48 + u % 10)]
theorem ddK_ok : ∀ (n u : Nat), u < 10 ^ n → 1 ≤ n → ddK n u = Lib.decDigits u
  | 0, u, _, h => by omega
  | n + 1, u, h, _ => by
    rw [Lib.decDigits]
    by_cases hu : u < 10
    · have : Nat.blt u 10 = true := by simpa using hu
      rw [dif_pos hu]; simp only [ddK, this, cond_true]
    · have : Nat.blt u 10 = false := by rw [Bool.eq_false_iff]; simpa using hu
      rw [dif_neg hu]; simp only [ddK, this, cond_false]
      have hn : 1 ≤ n := by
        cases n with
        | zero => simp at h; omega
        | succ n => omega
      rw [ddK_ok n (u / 10) (by rw [Nat.pow_succ] at h; omega) hn]
def itoaK : Int → Str
  | .ofNat u => ddK 20 u
  | .negSucc u => 45 :: ddK 20 (u + 1)
theorem itoaK_ok {n : Int} (h0 : -9223372036854775808 ≤ n) (h1 : n ≤ 9223372036854775807) : itoaK n = Lib.itoa n := by
  unfold Lib.itoa
  cases n with
  | ofNat u =>
    have hu : (Int.ofNat u : Int) = (u : Int) := rfl
    rw [if_neg (by omega)]
    exact ddK_ok 20 u (by rw [hu] at h1; omega) (by omega)
  | negSucc u =>
    have e : (Int.negSucc u).natAbs = u + 1 := rfl
    rw [if_pos (Int.negSucc_lt_zero u), e]
    have hu : (Int.negSucc u : Int) = -((u : Int) + 1) := rfl
    show 45 :: ddK 20 (u + 1) = _
    rw [ddK_ok 20 (u + 1) (by rw [hu] at h0; omega) (by omega)]
mutual
def showK : V → Str
  | .mk k n s l => if k = 1 then (if n = 1 then trueS else falseS) else if k = 2 then itoaK n else if k = 3 then s ++ [98] else if k = 4 then quoteS s
    else if k = 5 then 40 :: (showKR true l ++ [41]) else s ++ (match l with | [] => [] | _ :: _ => 40 :: (showKR true l ++ [41]))
def showKR : Bool → List V → Str
  | _, [] => []
  | f, v :: l => (if f then [] else [44, 32]) ++ (showK v ++ showKR false l)
end
mutual
theorem showK_ok : ∀ {v : V}, VB v → showK v = showV v
  | .mk k n s l, h => by
    have hr := showKR_ok (f := true) h.2.2.2.2
    simp only [showK, showV, itoaK_ok h.2.1.1 h.2.1.2, hr]
    cases l <;> simp
theorem showKR_ok : ∀ {l : List V} {f : Bool}, VBs l → showKR f l = showR f l
  | [], f, _ => rfl
  | v :: l, f, h => by simp only [showKR, showR, showK_ok h.1, showKR_ok h.2]
end
structure VIds where
  chk : Option Nat
  cmp : Option Nat
  rows : Option Nat
  show_ : Option Nat
  fmt : Option Nat
  rchk : Option Nat
  same : Option Nat
  srow : Option Nat
def isFn : Option Nat → Nat → Bool
  | some g, f => Nat.beq f g
  | none, _ => false
theorem isFn_ok {o : Option Nat} {f : Nat} (h : isFn o f = true) : o = some f := by
  cases o with
  | none => cases h
  | some g => rw [Nat.eq_of_beq_eq_true h]
def oneV (A : AS) (a : List AV) (k : V → Option AV) : Option (AV × AS) := match a with
  | [a] => (match rdV A 100 a with | some v => bif vbB v then (match k v with | some r => some (r, A) | none => none) else none | none => none)
  | _ => none
def two (A : AS) (a : List AV) (k : V → V → Option AV) : Option (AV × AS) := match a with
  | [a, b] => (match rdV A 100 a, rdV A 100 b with | some v, some w => bif vbB v && vbB w then (match k v w with | some r => some (r, A) | none => none) else none | _, _ => none)
  | _ => none
def twoR (A : AS) (a : List AV) (k : List V → List V → Option AV) : Option (AV × AS) := match a with
  | [a, b] => (match rdR A 100 a, rdR A 100 b with | some v, some w => bif (vbsB v && vbsB w) && (Nat.ble v.length 1000 && Nat.ble w.length 1000) then (match k v w with | some r => some (r, A) | none => none) else none | _, _ => none)
  | _ => none
def valPrim (i : VIds) (nxt : FuncId → List AV → AS → Option (AV × AS)) (f : FuncId) (args : List AV) (A : AS) : Option (AV × AS) :=
  bif isFn i.chk f then oneV A args fun v => some (.int .i64 (checkV v))
  else bif isFn i.cmp f then two A args fun v w => some (.int .i64 (cmpA v w))
  else bif isFn i.rows f then twoR A args fun v w => some (.int .i64 (cmpR v w))
  else bif isFn i.show_ f then oneV A args fun v => bif mayV v then (let s := showK v; bif Nat.ble s.length 1000000 then some (.str s) else none) else some (.str [])
  else bif isFn i.fmt f then (match args with | [.int .i64 n, .int .i64 m] => bif decide (m = 10) && (decide (-9223372036854775808 ≤ n) && decide (n ≤ 9223372036854775807)) then some (.str (itoaK n), A) else none | _ => none)
  else bif isFn i.rchk f then oneV A args fun v => bif Nat.ble (vsize v) 1000000 then some (.int .i64 (checkV v)) else none
  else bif isFn i.same f then two A args fun v w => some (.bool (sameV v w))
  else bif isFn i.srow f then twoR A args fun v w => some (.bool (sameVs v w))
  else nxt f args A
structure ValOk (P : Program) (C : Ctx) (i : VIds) : Prop where
  chk : ∀ f, i.chk = some f → CallOk P f ∧ ∀ (v : V) (x : TV) (H : Heap) (Φ : Value → Heap → Prop), VIs H v x → VB v → Φ (.int .i64 (checkV v)) H → Spec P C f [.agg (T_api_Value.c x).toArray] H Φ
  cmp : ∀ f, i.cmp = some f → CallOk P f ∧ ∀ (v w : V) (x y : TV) (H : Heap) (Φ : Value → Heap → Prop), VIs H v x → VIs H w y → VB v → VB w → Φ (.int .i64 (cmpA v w)) H → Spec P C f [.agg (T_api_Value.c x).toArray, .agg (T_api_Value.c y).toArray] H Φ
  rows : ∀ f, i.rows = some f → CallOk P f ∧ ∀ (l m : List V) (s t : Sl) (H : Heap) (Φ : Value → Heap → Prop), VRow H s l → VRow H t m → l.length ≤ 1000 → m.length ≤ 1000 → VBs l → VBs m → Φ (.int .i64 (cmpR l m)) H → Spec P C f [slv s, slv t] H Φ
  show_ : ∀ f, i.show_ = some f → CallOk P f ∧ ∀ (v : V) (x : TV) (H : Heap) (Φ : Value → Heap → Prop), VIs H v x → VB v → (mayV v = true → (showV v).length ≤ 1000000) → (∀ H2, H.le H2 → Φ (sv (if mayV v then showV v else [])) H2) → Spec P C f [.agg (T_api_Value.c x).toArray] H Φ
  fmt : ∀ f, i.fmt = some f → CallOk P f ∧ ∀ (n : Int) (H : Heap) (Φ : Value → Heap → Prop), -9223372036854775808 ≤ n → n ≤ 9223372036854775807 → Φ (sv (Lib.itoa n)) H → Spec P C f [.int .i64 n, .int .i64 10] H Φ
  rchk : ∀ f, i.rchk = some f → CallOk P f ∧ ∀ (v : V) (x : TV) (H : Heap) (Φ : Value → Heap → Prop), VIs H v x → VB v → vsize v ≤ 1000000 → Φ (.int .i64 (checkV v)) H → Spec P C f [.agg (T_api_Value.c x).toArray] H Φ
  same : ∀ f, i.same = some f → CallOk P f ∧ ∀ (v w : V) (x y : TV) (H : Heap) (Φ : Value → Heap → Prop), VIs H v x → VIs H w y → VB v → VB w → Φ (.bool (sameV v w)) H → Spec P C f [.agg (T_api_Value.c x).toArray, .agg (T_api_Value.c y).toArray] H Φ
  srow : ∀ f, i.srow = some f → CallOk P f ∧ ∀ (l m : List V) (s t : Sl) (H : Heap) (Φ : Value → Heap → Prop), VRow H s l → VRow H t m → l.length ≤ 1000 → m.length ≤ 1000 → VBs l → VBs m → Φ (.bool (sameVs l m)) H → Spec P C f [slv s, slv t] H Φ
section
variable {P : Program} {C : Ctx}
theorem Emb.up2 {e : Env} {F H H2 : Heap} {A : AS} (h : Emb e F A H) (hle : H.le H2) : Emb e F A H2 :=
  ⟨h.fle.trans hle, fun k o hk => by
    obtain ⟨b, c, g, h1, h2, h3, h4⟩ := h.at_ k o hk
    exact ⟨b, c, g, h1, h2, hle _ _ h3, h4⟩, h.inj⟩
theorem one_ok {f : FuncId} {args : List AV} {A A' : AS} {r : AV} {k : V → Option AV} (h : oneV A args k = some (r, A'))
    (hk : ∀ (v : V) (x : TV) (H : Heap) (Φ : Value → Heap → Prop) (ru : Value), VB v → k v = some r → VIs H v x → (∀ e, Dn e r ru) → (∀ H2, H.le H2 → Φ ru H2) → Spec P C f [.agg (T_api_Value.c x).toArray] H Φ) (hr : ∀ v, k v = some r → ∃ ru, ∀ e, Dn e r ru) :
    Out A A' ∧ CallS P C f args A r A' := by
  unfold oneV at h
  split at h <;> try (cases h; done)
  rename_i a
  split at h <;> try (cases h; done)
  rename_i v hv
  cases hb : vbB v with
  | false => rw [hb] at h; cases h
  | true =>
    rw [hb] at h
    simp only [cond_true] at h
    split at h <;> try (cases h; done)
    rename_i r' hk'
    injection h with h; injection h with h1 h2; subst h1; subst h2
    refine ⟨Out.refl _, fun e F H us hd hE hfr => ?_⟩
    cases hd with
    | cons d1 d2 =>
    cases d2
    obtain ⟨x, rfl, hx⟩ := rdV_ok hE hv d1
    obtain ⟨ru, hru⟩ := hr v hk'
    exact hk v x H _ ru (vbB_ok hb) hk' hx hru fun H2 h2 => ⟨e, EnvX.refl _ _ _, hru e, hE.up2 h2⟩
theorem two_ok {f : FuncId} {args : List AV} {A A' : AS} {r : AV} {k : V → V → Option AV} (h : two A args k = some (r, A'))
    (hk : ∀ (v w : V) (x y : TV) (H : Heap) (Φ : Value → Heap → Prop) (ru : Value), VB v → VB w → k v w = some r → VIs H v x → VIs H w y → (∀ e, Dn e r ru) → (∀ H2, H.le H2 → Φ ru H2) → Spec P C f [.agg (T_api_Value.c x).toArray, .agg (T_api_Value.c y).toArray] H Φ) (hr : ∀ v w, k v w = some r → ∃ ru, ∀ e, Dn e r ru) :
    Out A A' ∧ CallS P C f args A r A' := by
  unfold two at h
  split at h <;> try (cases h; done)
  rename_i a b
  split at h <;> try (cases h; done)
  rename_i v w hv hw
  cases hb : vbB v && vbB w with
  | false => rw [hb] at h; cases h
  | true =>
    rw [hb] at h
    simp only [cond_true] at h
    split at h <;> try (cases h; done)
    rename_i r' hk'
    injection h with h; injection h with h1 h2; subst h1; subst h2
    rw [Bool.and_eq_true] at hb
    refine ⟨Out.refl _, fun e F H us hd hE hfr => ?_⟩
    cases hd with
    | cons d1 d2 =>
    cases d2 with
    | cons d2 d3 =>
    cases d3
    obtain ⟨x, rfl, hx⟩ := rdV_ok hE hv d1
    obtain ⟨y, rfl, hy⟩ := rdV_ok hE hw d2
    obtain ⟨ru, hru⟩ := hr v w hk'
    exact hk v w x y H _ ru (vbB_ok hb.1) (vbB_ok hb.2) hk' hx hy hru fun H2 h2 => ⟨e, EnvX.refl _ _ _, hru e, hE.up2 h2⟩
theorem twoR_ok {f : FuncId} {args : List AV} {A A' : AS} {r : AV} {k : List V → List V → Option AV} (h : twoR A args k = some (r, A'))
    (hk : ∀ (v w : List V) (x y : Sl) (H : Heap) (Φ : Value → Heap → Prop) (ru : Value), VBs v → VBs w → v.length ≤ 1000 → w.length ≤ 1000 → k v w = some r → VRow H x v → VRow H y w → (∀ e, Dn e r ru) → (∀ H2, H.le H2 → Φ ru H2) → Spec P C f [slv x, slv y] H Φ) (hr : ∀ v w, k v w = some r → ∃ ru, ∀ e, Dn e r ru) :
    Out A A' ∧ CallS P C f args A r A' := by
  unfold twoR at h
  split at h <;> try (cases h; done)
  rename_i a b
  split at h <;> try (cases h; done)
  rename_i v w hv hw
  cases hb : (vbsB v && vbsB w) && (Nat.ble v.length 1000 && Nat.ble w.length 1000) with
  | false => rw [hb] at h; cases h
  | true =>
    rw [hb] at h
    simp only [cond_true] at h
    split at h <;> try (cases h; done)
    rename_i r' hk'
    injection h with h; injection h with h1 h2; subst h1; subst h2
    simp only [Bool.and_eq_true] at hb
    refine ⟨Out.refl _, fun e F H us hd hE hfr => ?_⟩
    cases hd with
    | cons d1 d2 =>
    cases d2 with
    | cons d2 d3 =>
    cases d3
    obtain ⟨x, rfl, hx⟩ := rdR_ok hE hv d1
    obtain ⟨y, rfl, hy⟩ := rdR_ok hE hw d2
    obtain ⟨ru, hru⟩ := hr v w hk'
    exact hk v w x y H _ ru (vbsB_ok hb.1.1) (vbsB_ok hb.1.2) (ble_t hb.2.1) (ble_t hb.2.2) hk' hx hy hru fun H2 h2 => ⟨e, EnvX.refl _ _ _, hru e, hE.up2 h2⟩
theorem dn_int {e : Env} {r : AV} {k : IntKind} {n : Int} (h : some (AV.int k n) = some r) {ru : Value} (hr : ∀ e, Dn e r ru) : ru = .int k n := by
  injection h with h
  subst h
  have := hr fun _ => none
  cases this; rfl
theorem dn_bool {r : AV} {b : Bool} (h : some (AV.bool b) = some r) {ru : Value} (hr : ∀ e, Dn e r ru) : ru = .bool b := by
  injection h with h
  subst h
  have := hr fun _ => none
  cases this; rfl
theorem dn_str {r : AV} {s : Str} (h : some (AV.str s) = some r) {ru : Value} (hr : ∀ e, Dn e r ru) : ru = sv s := by
  injection h with h
  subst h
  have := hr fun _ => none
  cases this; rfl
theorem val_ok {i : VIds} {nxt : FuncId → List AV → AS → Option (AV × AS)} (hV : ValOk P C i) (hN : PrimOk P C nxt) : PrimOk P C (valPrim i nxt) := ⟨fun f args A r A' h => by
  unfold valPrim at h
  cases h1 : isFn i.chk f with
  | true =>
    rw [h1] at h
    simp only [cond_true] at h
    obtain ⟨q1, q2⟩ := hV.chk f (isFn_ok h1)
    have := one_ok (P := P) (C := C) (f := f) h (fun v x H Φ ru hB hk hx hr hΦ => q2 v x H Φ hx hB (by rw [← dn_int (e := fun _ => none) hk hr]; exact hΦ H (Heap.le.refl _))) fun v hk => ⟨.int .i64 (checkV v), fun e => by injection hk with hk; subst hk; exact .int ..⟩
    exact ⟨this.1, this.2, q1⟩
  | false =>
  rw [h1] at h
  simp only [cond_false] at h
  cases h2 : isFn i.cmp f with
  | true =>
    rw [h2] at h
    simp only [cond_true] at h
    obtain ⟨q1, q2⟩ := hV.cmp f (isFn_ok h2)
    have := two_ok (P := P) (C := C) (f := f) h (fun v w x y H Φ ru hB hB2 hk hx hy hr hΦ => q2 v w x y H Φ hx hy hB hB2 (by rw [← dn_int (e := fun _ => none) hk hr]; exact hΦ H (Heap.le.refl _))) fun v w hk => ⟨.int .i64 (cmpA v w), fun e => by injection hk with hk; subst hk; exact .int ..⟩
    exact ⟨this.1, this.2, q1⟩
  | false =>
  rw [h2] at h
  simp only [cond_false] at h
  cases h3 : isFn i.rows f with
  | true =>
    rw [h3] at h
    simp only [cond_true] at h
    obtain ⟨q1, q2⟩ := hV.rows f (isFn_ok h3)
    have := twoR_ok (P := P) (C := C) (f := f) h (fun v w x y H Φ ru hB hB2 l1 l2 hk hx hy hr hΦ => q2 v w x y H Φ hx hy l1 l2 hB hB2 (by rw [← dn_int (e := fun _ => none) hk hr]; exact hΦ H (Heap.le.refl _))) fun v w hk => ⟨.int .i64 (cmpR v w), fun e => by injection hk with hk; subst hk; exact .int ..⟩
    exact ⟨this.1, this.2, q1⟩
  | false =>
  rw [h3] at h
  simp only [cond_false] at h
  cases h4 : isFn i.show_ f with
  | true =>
    rw [h4] at h
    simp only [cond_true] at h
    obtain ⟨q1, q2⟩ := hV.show_ f (isFn_ok h4)
    have key : ∀ v, VB v → (bif mayV v then (let s := showK v; bif Nat.ble s.length 1000000 then some (AV.str s) else none) else some (.str [])) = some r → some (AV.str (if mayV v then showV v else [])) = some r ∧ (mayV v = true → (showV v).length ≤ 1000000) := fun v hB hk => by
      cases hm : mayV v with
      | false => rw [hm] at hk; exact ⟨hk, fun h => by cases h⟩
      | true =>
        rw [hm] at hk
        simp only [cond_true] at hk
        rw [showK_ok hB] at hk
        cases hl : Nat.ble (showV v).length 1000000 with
        | false => rw [hl] at hk; cases hk
        | true => rw [hl] at hk; exact ⟨hk, fun _ => ble_t hl⟩
    have := one_ok (P := P) (C := C) (f := f) h (fun v x H Φ ru hB hk hx hr hΦ => q2 v x H Φ hx hB (key v hB hk).2 (by rw [← dn_str (key v hB hk).1 hr]; exact hΦ)) fun v hk => by
      cases hm : mayV v with
      | false => rw [hm] at hk; exact ⟨sv [], fun e => by injection hk with hk; subst hk; exact .str ..⟩
      | true =>
        rw [hm] at hk
        simp only [cond_true] at hk
        cases hl : Nat.ble (showK v).length 1000000 with
        | false => rw [hl] at hk; cases hk
        | true => rw [hl] at hk; exact ⟨sv (showK v), fun e => by injection hk with hk; subst hk; exact .str ..⟩
    exact ⟨this.1, this.2, q1⟩
  | false =>
  rw [h4] at h
  simp only [cond_false] at h
  cases h5 : isFn i.fmt f with
  | true =>
    rw [h5] at h
    simp only [cond_true] at h
    obtain ⟨q1, q2⟩ := hV.fmt f (isFn_ok h5)
    split at h <;> try (cases h; done)
    rename_i n m
    cases hb : decide (m = 10) && (decide (-9223372036854775808 ≤ n) && decide (n ≤ 9223372036854775807)) with
    | false => rw [hb] at h; cases h
    | true =>
      rw [hb] at h
      simp only [Bool.and_eq_true, decide_eq_true_eq] at hb
      obtain ⟨rfl, h6, h7⟩ := hb
      injection h with h; injection h with h8 h9; subst h8; subst h9
      refine ⟨Out.refl _, fun e F H us hd hE hfr => ?_, q1⟩
      cases hd with
      | cons d1 d2 =>
      cases d2 with
      | cons d2 d3 =>
      cases d3; cases d1; cases d2
      refine q2 n H _ h6 h7 ⟨e, EnvX.refl _ _ _, ?_, hE⟩
      rw [itoaK_ok h6 h7]; exact .str ..
  | false =>
  rw [h5] at h
  simp only [cond_false] at h
  cases h6 : isFn i.rchk f with
  | true =>
    rw [h6] at h
    simp only [cond_true] at h
    obtain ⟨q1, q2⟩ := hV.rchk f (isFn_ok h6)
    have key : ∀ v, (bif Nat.ble (vsize v) 1000000 then some (AV.int .i64 (checkV v)) else none) = some r → some (AV.int .i64 (checkV v)) = some r ∧ vsize v ≤ 1000000 := fun v hk => by
      cases hl : Nat.ble (vsize v) 1000000 with
      | false => rw [hl] at hk; cases hk
      | true => rw [hl] at hk; exact ⟨hk, ble_t hl⟩
    have := one_ok (P := P) (C := C) (f := f) h (fun v x H Φ ru hB hk hx hr hΦ => q2 v x H Φ hx hB (key v hk).2 (by rw [← dn_int (e := fun _ => none) (key v hk).1 hr]; exact hΦ H (Heap.le.refl _))) fun v hk => ⟨.int .i64 (checkV v), fun e => by have hk := (key v hk).1; injection hk with hk; subst hk; exact .int ..⟩
    exact ⟨this.1, this.2, q1⟩
  | false =>
  rw [h6] at h
  simp only [cond_false] at h
  cases h7 : isFn i.same f with
  | true =>
    rw [h7] at h
    simp only [cond_true] at h
    obtain ⟨q1, q2⟩ := hV.same f (isFn_ok h7)
    have := two_ok (P := P) (C := C) (f := f) h (fun v w x y H Φ ru hB hB2 hk hx hy hr hΦ => q2 v w x y H Φ hx hy hB hB2 (by rw [← dn_bool hk hr]; exact hΦ H (Heap.le.refl _))) fun v w hk => ⟨.bool (sameV v w), fun e => by injection hk with hk; subst hk; exact .bool ..⟩
    exact ⟨this.1, this.2, q1⟩
  | false =>
  rw [h7] at h
  simp only [cond_false] at h
  cases h8 : isFn i.srow f with
  | true =>
    rw [h8] at h
    simp only [cond_true] at h
    obtain ⟨q1, q2⟩ := hV.srow f (isFn_ok h8)
    have := twoR_ok (P := P) (C := C) (f := f) h (fun v w x y H Φ ru hB hB2 l1 l2 hk hx hy hr hΦ => q2 v w x y H Φ hx hy l1 l2 hB hB2 (by rw [← dn_bool hk hr]; exact hΦ H (Heap.le.refl _))) fun v w hk => ⟨.bool (sameVs v w), fun e => by injection hk with hk; subst hk; exact .bool ..⟩
    exact ⟨this.1, this.2, q1⟩
  | false =>
  rw [h8] at h
  simp only [cond_false] at h
  exact hN.ok _ _ _ _ _ h⟩
end
end Sx
end


/- Operations side by side, the second part: places, parts, slices, interfaces, functions. -/
import Derived.Test.YtpnfkkoflppkhaaGreatDoorExOps
noncomputable section
namespace Go.Ex

section ops
variable {E : Env} {w0 w : World} {ι : Ren} {σ : Nat → Nat} {H : AH} {r : Nat → Value} {tmps : Array Value}

theorem within_some {i : Int} {n k : Nat} (h : within i n = some k) : i = k ∧ k < n := by
  cases i with
  | ofNat j =>
    simp only [within] at h
    cases hb : Nat.ble n j with
    | true => rw [hb] at h; cases h
    | false =>
      rw [hb] at h
      simp at h
      subst h
      refine ⟨rfl, ?_⟩
      rcases Nat.lt_or_ge j n with h | h
      · exact h
      · rw [Nat.ble_eq_true_of_le h] at hb; cases hb
  | negSucc j => simp [within] at h

theorem field_ok (ok : EnvOk E) (R : HRel E w0 ι σ H w) (s : TypeId) (f : Nat) {x x' : Value} (hx : VRel ι σ x x') :
    ResOk E w0 ι σ H w (val (fieldA E s x f) H) ((do pure (.value (← Instr.fieldAt s x' f)) : Sem Next).run E.P w) := by
  refine ResOk.val_opt R fun y hy => ?_
  cases hx <;> simp only [fieldA] at hy <;> try (cases hy; done)
  rename_i b o cb co hι
  cases hd : E.und.get s with
  | none => simp [hd] at hy
  | some d =>
    cases d <;> simp only [hd] at hy <;> try (cases hy; done)
    rename_i fields
    rw [getAll_eq] at hy
    cases hf : fields.toList[f]? with
    | none => simp [hf] at hy
    | some fd =>
      simp only [hf] at hy
      cases hs : sizT E fd.type with
      | none => simp [hs] at hy
      | some n =>
        simp only [hs] at hy
        cases hn : Nat.beq n 0 with
        | true => simp [hn] at hy
        | false =>
          simp only [hn, Option.some.injEq] at hy
          subst hy
          have hn0 : n ≠ 0 := by rintro rfl; cases hn
          refine ⟨_, ?_, VRel.ptr (o := o + fd.offset) hι⟩
          have hf' : fields[f]? = some fd := by rw [← hf]; simp
          simp [Instr.fieldAt, run_und ok hd, hf', Instr.sureAddr, fieldPlace, run_siz ok hs, hn0, Addr.add_none, Nat.add_assoc]

theorem indexA_ok (ok : EnvOk E) (R : HRel E w0 ι σ H w) (t : TypeId) {x x' i i' : Value} (hx : VRel ι σ x x') (hi : VRel ι σ i i') :
    ResOk E w0 ι σ H w (val (indexA E t x i) H) ((do pure (.value (← Instr.indexAt t x' i')) : Sem Next).run E.P w) := by
  refine ResOk.val_opt R fun y hy => ?_
  unfold indexA at hy
  split at hy <;> try (cases hy; done)
  rename_i k j
  cases hi
  split at hy <;> try (cases hy; done)
  · rename_i len elem b o hd
    cases hx
    rename_i cb co hι
    cases hw : within j len with
    | none => simp [hw] at hy
    | some k' =>
      cases hs : sizT E elem with
      | none => simp [hw, hs] at hy
      | some n =>
        simp only [hw, hs, Option.some.injEq] at hy
        subst hy
        obtain ⟨rfl, hlt⟩ := within_some hw
        refine ⟨_, ?_, VRel.ptr (o := o + k' * n) hι⟩
        simp [Instr.indexAt, asIntOf, run_und ok hd, Instr.sureAddr, run_siz ok hs, hlt, Addr.add_none, Nat.add_assoc]
  · rename_i elem b o len cap hd
    have key : ∀ cb co c, ι b = some (cb, co) → ∃ v', (do pure (.value (← Instr.indexAt t (.slice (some ⟨cb, co + o, none⟩) len c) (.int k j))) : Sem Next).run E.P w = .ok (.value v') w ∧ VRel ι σ y v' := by
      intro cb co c hι
      cases hw : within j len with
      | none => simp [hw] at hy
      | some k' =>
        cases hs : sizT E elem with
        | none => simp [hw, hs] at hy
        | some n =>
          simp only [hw, hs, Option.some.injEq] at hy
          subst hy
          obtain ⟨rfl, hlt⟩ := within_some hw
          refine ⟨_, ?_, VRel.ptr (o := o + k' * n) hι⟩
          simp [Instr.indexAt, asIntOf, run_und ok hd, run_siz ok hs, hlt, Addr.add_none, Nat.add_assoc]
    cases hx
    · rename_i cb co hι hc; exact key cb co cap hι
    · rename_i cb co es cap' hι hl hc; exact key cb co cap' hι

theorem partL_ok (ok : EnvOk E) {t : TypeId} {cs : List Value} {cs' : Array Value} {off : Nat} {y : Value} (hc : VsRel ι σ cs cs'.toList) (h : partL E t cs off = some y) :
    ∃ y', (part t cs' off).run E.P w = .ok y' w ∧ VRel ι σ y y' := by
  unfold partL at h
  cases ht : aggT E t with
  | none => simp [ht] at h
  | some b =>
    cases b with
    | true =>
      simp only [ht] at h
      cases hs : sizT E t with
      | none => simp [hs] at h
      | some n =>
        simp only [hs] at h
        cases hv : cut cs off n with
        | none => simp [hv] at h
        | some vs =>
          simp only [hv, Option.some.injEq] at h
          subst h
          obtain ⟨_, rfl⟩ := cut_some hv
          refine ⟨.agg (cs'.extract off (off + n)), by simp [part, run_agg ok ht, run_siz ok hs], .agg ?_⟩
          have : (cs'.extract off (off + n)).toList = (cs'.toList.drop off).take n := by
            simp [Array.toList_extract, List.extract_eq_take_drop]
          rw [this]
          exact .of_l2 ((hc.l2.drop off).take n)
    | false =>
      simp only [ht, getAll_eq] at h
      obtain ⟨y', h1, h2⟩ := hc.l2.get h
      have h1' : cs'[off]? = some y' := by rw [← h1]; simp
      exact ⟨y', by simp [part, run_agg ok ht, h1'], h2⟩

theorem fieldV_ok (ok : EnvOk E) (R : HRel E w0 ι σ H w) (t : TypeId) (f : Nat) {x x' : Value} (hx : VRel ι σ x x') :
    ResOk E w0 ι σ H w (val (fieldV E t x f) H) ((do pure (.value (← Instr.field t x' f)) : Sem Next).run E.P w) := by
  refine ResOk.val_opt R fun y hy => ?_
  cases hx <;> simp only [fieldV] at hy <;> try (cases hy; done)
  rename_i cs cs' hc
  cases hd : E.und.get t with
  | none => simp [hd] at hy
  | some d =>
    cases d <;> simp only [hd] at hy <;> try (cases hy; done)
    rename_i fields
    rw [getAll_eq] at hy
    cases hf : fields.toList[f]? with
    | none => simp [hf] at hy
    | some fd =>
      simp only [hf] at hy
      obtain ⟨y', h1, h2⟩ := partL_ok (w := w) ok hc hy
      have hf' : fields[f]? = some fd := by rw [← hf]; simp
      exact ⟨y', by simp [Instr.field, run_und ok hd, hf', asAgg, h1], h2⟩

theorem indexV_ok (ok : EnvOk E) (R : HRel E w0 ι σ H w) (t : TypeId) {x x' i i' : Value} (hx : VRel ι σ x x') (hi : VRel ι σ i i') :
    ResOk E w0 ι σ H w (val (indexV E t x i) H) ((do pure (.value (← Instr.index t x' i')) : Sem Next).run E.P w) := by
  refine ResOk.val_opt R fun y hy => ?_
  unfold indexV at hy
  split at hy <;> try (cases hy; done)
  rename_i k j
  cases hi
  split at hy <;> try (cases hy; done)
  · rename_i len elem cs hd
    cases hx
    rename_i cs' hc
    cases hw : within j len with
    | none => simp [hw] at hy
    | some k' =>
      cases hs : sizT E elem with
      | none => simp [hw, hs] at hy
      | some n =>
        simp only [hw, hs] at hy
        obtain ⟨rfl, hlt⟩ := within_some hw
        obtain ⟨y', h1, h2⟩ := partL_ok (w := w) ok hc hy
        exact ⟨y', by simp [Instr.index, asIntOf, run_und ok hd, run_siz ok hs, hlt, h1], h2⟩
  · rename_i s hd
    cases hx
    cases hw : within j s.size with
    | none => simp [hw] at hy
    | some k' =>
      simp only [hw] at hy
      obtain ⟨rfl, hlt⟩ := within_some hw
      cases hb : s.data.toList[k']? with
      | none => simp [hb] at hy
      | some b =>
        simp only [hb, Option.some.injEq] at hy
        subst hy
        refine ⟨_, ?_, .int .u8 b.toNat⟩
        have hb' : s[k']? = some b := by
          have h0 : s.data[k']? = some b := by rw [← hb]; simp
          obtain ⟨h1, h2⟩ := Array.getElem?_eq_some_iff.1 h0
          rw [getElem?_pos s k' h1]
          exact congrArg some h2
        simp [Instr.index, asIntOf, run_und ok hd, hb']

theorem bound_some {v : Option Value} {v' : Option Value} {d n k : Nat} (h : bound v d n = some k) (hv : ∀ x, v = some x → ∃ x', v' = some x' ∧ VRel ι σ x x') (hn : v = none → v' = none) :
    (v = none ∧ v' = none ∧ k = d) ∨ (∃ i : IntKind, v' = some (.int i (k : Int)) ∧ k ≤ n ∧ ∃ x, v = some x) := by
  unfold bound at h
  split at h
  · simp at h; exact .inl ⟨rfl, hn rfl, h.symm⟩
  · rename_i i j
    obtain ⟨x', h1, h2⟩ := hv _ rfl
    cases h2
    obtain ⟨rfl, hlt⟩ := within_some h
    exact .inr ⟨i, h1, by omega, _, rfl⟩
  · cases h

/-- Pairs of bounds on both sides. -/
def ORelV (ι : Ren) (σ : Nat → Nat) (v v' : Option Value) : Prop := (v = none ∧ v' = none) ∨ ∃ x x', v = some x ∧ v' = some x' ∧ VRel ι σ x x'

theorem bound_run {v v' : Option Value} {d n k : Nat} (h : bound v d n = some k) (hv : ORelV ι σ v v') :
    (v = none ∧ v' = none ∧ k = d) ∨ (∃ i : IntKind, (∃ x, v = some x) ∧ v' = some (.int i (k : Int)) ∧ k ≤ n) := by
  rcases bound_some (v' := v') h (fun x hx => by
    rcases hv with ⟨h1, _⟩ | ⟨y, y', h1, h2, h3⟩
    · rw [h1] at hx; cases hx
    · rw [h1] at hx; cases hx; exact ⟨y', h2, h3⟩) (fun hx => by
    rcases hv with ⟨_, h2⟩ | ⟨y, y', h1, _, _⟩
    · exact h2
    · rw [h1] at hx; cases hx) with h | ⟨i, h1, h2, h3⟩
  · exact .inl h
  · exact .inr ⟨i, h3, h1, h2⟩

theorem sliceBound_run {P : Program} {i : IntKind} {k n : Nat} {c : BoundsCode} (h : k ≤ n) : (Instr.sliceBound (.int i (k : Int)) n c).run P w = .ok k w := by
  have : ((k : Int) ≤ (n : Int)) := by omega
  simp [Instr.sliceBound, asIntOf, this]

/-- The bounds of a slice without a third one. -/
theorem sliceBounds2 {P : Program} {isS : Bool} {len cap : Nat} {lo hi lo' hi' : Option Value} {l h : Nat} (hh : bound hi len (if isS then cap else cap) = some h) (hl : bound lo 0 h = some l)
    (rl : ORelV ι σ lo lo') (rh : ORelV ι σ hi hi') :
    (Instr.sliceBounds isS len cap lo' hi' none).run P w = .ok (l, h, cap) w := by
  simp only [ite_self] at hh
  rcases bound_run hh rh with ⟨_, e1, rfl⟩ | ⟨i, _, e1, hle⟩ <;> rcases bound_run hl rl with ⟨_, e2, rfl⟩ | ⟨j, _, e2, hle2⟩ <;>
    subst e1 <;> subst e2 <;> simp [Instr.sliceBounds, sliceBound_run, *]

theorem sliceBounds3 {P : Program} {len cap : Nat} {lo hi mx lo' hi' mx' : Option Value} {l h m : Nat} (hm : bound mx cap cap = some m) (hmx : mx ≠ none) (hi0 : hi ≠ none)
    (hh : bound hi len m = some h) (hl : bound lo 0 h = some l)
    (rl : ORelV ι σ lo lo') (rh : ORelV ι σ hi hi') (rm : ORelV ι σ mx mx') :
    (Instr.sliceBounds true len cap lo' hi' mx').run P w = .ok (l, h, m) w := by
  rcases bound_run hm rm with ⟨e, _, _⟩ | ⟨a, _, e0, hle0⟩
  · exact absurd e hmx
  rcases bound_run hh rh with ⟨e, _, _⟩ | ⟨i, _, e1, hle⟩
  · exact absurd e hi0
  rcases bound_run hl rl with ⟨_, e2, rfl⟩ | ⟨j, _, e2, hle2⟩ <;> subst e0 <;> subst e1 <;> subst e2 <;> simp [Instr.sliceBounds, sliceBound_run, *]

theorem bound_le {v : Option Value} {d n k : Nat} (h : bound v d n = some k) (hd : d ≤ n) : k ≤ n := by
  unfold bound at h
  split at h
  · simp at h; omega
  · have := (within_some h).2; omega
  · cases h

theorem nbeq_ne {a b : Nat} (h : Nat.beq a b = false) : a ≠ b := by rintro rfl; rw [Nat.beq_refl] at h; cases h
theorem nbeq_eq {a b : Nat} (h : Nat.beq a b = true) : a = b := Nat.eq_of_beq_eq_true h
theorem nble_le {a b : Nat} (h : Nat.ble a b = true) : a ≤ b := Nat.le_of_ble_eq_true h
theorem nble_lt {a b : Nat} (h : Nat.ble a b = false) : b < a := by
  rcases Nat.lt_or_ge b a with h' | h'
  · exact h'
  · rw [Nat.ble_eq_true_of_le h'] at h; cases h

theorem slice_run (ok : EnvOk E) {t elem : TypeId} {n : Nat} (hd : E.und.get t = some (.slice elem)) (hs : sizT E elem = some n) {a : Option Addr} {len cap l h m : Nat} {lo hi mx : Option Value}
    (hb : (Instr.sliceBounds true len cap lo hi mx).run E.P w = .ok (l, h, m) w) :
    ((do pure (.value (← Instr.sliceAt t (.slice a len cap) lo hi mx)) : Sem Next).run E.P w) = .ok (.value (.slice (if m = l then a else a.map (·.add (l * n))) (h - l) (m - l))) w := by
  simp [Instr.sliceAt, Instr.slice, run_und ok hd, hb, run_siz ok hs]

theorem slice_ok (ok : EnvOk E) (R : HRel E w0 ι σ H w) (t : TypeId) {x x' : Value} {lo hi mx lo' hi' mx' : Option Value} (hx : VRel ι σ x x')
    (rl : ORelV ι σ lo lo') (rh : ORelV ι σ hi hi') (rm : ORelV ι σ mx mx') :
    ResOk E w0 ι σ H w (val (sliceV E t x lo hi mx) H) ((do pure (.value (← Instr.sliceAt t x' lo' hi' mx')) : Sem Next).run E.P w) := by
  refine ResOk.val_opt R fun y hy => ?_
  unfold sliceV at hy
  split at hy <;> try (cases hy; done)
  · -- a string
    rename_i s hd
    cases hx
    cases mx with
    | some _ => cases hy
    | none =>
      have hm' : mx' = none := by rcases rm with ⟨_, h⟩ | ⟨_, _, h, _⟩; exact h; cases h
      subst hm'
      simp only at hy
      cases hh : bound hi s.size s.size with
      | none => simp [hh] at hy
      | some h =>
        simp only [hh] at hy
        cases hl : bound lo 0 h with
        | none => simp [hl] at hy
        | some l =>
          simp only [hl, Option.some.injEq] at hy
          subst hy
          have := sliceBounds2 (P := E.P) (w := w) (isS := false) (by simpa using hh) hl rl rh
          exact ⟨_, by simp [Instr.sliceAt, Instr.slice, run_und ok hd, this], .string _⟩
  · -- a slice
    rename_i elem b o len cap hd
    cases hs : sizT E elem with
    | none => simp [hs] at hy
    | some n =>
      simp only [hs] at hy
      cases hU : Nat.ble capU cap with
      | false =>
        simp only [hU] at hy
        have hcap := nble_lt hU
        cases hx
        rotate_left
        · omega
        rename_i cb co hι _
        cases hm : bound mx cap cap with
        | none => simp [hm] at hy
        | some m =>
          simp only [hm] at hy
          have hmle := bound_le hm (Nat.le_refl _)
          -- the three bounds of the machine
          have key : ∀ h l, (match hi with | none => (match mx with | none => some len | some _ => none) | some _ => bound hi len m) = some h → bound lo 0 h = some l →
              (Instr.sliceBounds true len cap lo' hi' mx').run E.P w = .ok (l, h, m) w := by
            intro h l hh hl
            cases mx with
            | none =>
              have hm' : mx' = none := by rcases rm with ⟨_, h⟩ | ⟨_, _, h, _⟩; exact h; cases h
              subst hm'
              simp [bound] at hm; subst hm
              refine sliceBounds2 (isS := true) ?_ hl rl rh
              cases hi with
              | none => simpa [bound] using hh
              | some _ => simpa using hh
            | some _ =>
              cases hi with
              | none => cases hh
              | some _ => exact sliceBounds3 hm (by simp) (by simp) hh hl rl rh rm
          split at hy
          · cases hy
          · rename_i h hh
            cases hl : bound lo 0 h with
            | none => simp [hl] at hy
            | some l =>
              simp only [hl, Option.some.injEq] at hy
              have hb := key h l hh hl
              subst hy
              cases e : Nat.beq m l with
              | true =>
                have := nbeq_eq e
                subst this
                refine ⟨_, slice_run ok hd hs hb, ?_⟩
                rw [if_pos rfl]
                exact .slice hι (by omega)
              | false =>
                have := nbeq_ne e
                refine ⟨_, slice_run ok hd hs hb, ?_⟩
                rw [if_neg this, Option.map_some, Addr.add_none, Nat.add_assoc]
                exact .slice hι (by omega)
      | true =>
        simp only [hU] at hy
        have hcap := nble_le hU
        cases mx with
        | some _ => cases hy
        | none =>
          have hm' : mx' = none := by rcases rm with ⟨_, h⟩ | ⟨_, _, h, _⟩; exact h; cases h
          subst hm'
          simp only at hy
          cases hc : Nat.beq cap (capU + n) with
          | false => simp [hc] at hy
          | true =>
            simp only [hc] at hy
            have hcn := nbeq_eq hc
            cases hx
            · omega
            rename_i cb co es cap' hι hle hsz
            have hes : es = n := by omega
            subst hes
            cases hh : bound hi len len with
            | none => simp [hh] at hy
            | some h =>
              simp only [hh] at hy
              have hhl := bound_le hh (Nat.le_refl _)
              cases hl : bound lo 0 h with
              | none => simp [hl] at hy
              | some l =>
                simp only [hl] at hy
                have hll := bound_le hl (Nat.zero_le _)
                have hh' : bound hi len cap' = some h := by
                  unfold bound at hh ⊢
                  split at hh
                  · exact hh
                  · rename_i i j
                    obtain ⟨rfl, hlt⟩ := within_some hh
                    have h2 : Nat.ble (cap' + 1) h = false := by
                      cases hx : Nat.ble (cap' + 1) h
                      · rfl
                      · have := nble_le hx; omega
                    have : within (h : Int) (cap' + 1) = some h := by
                      show (match Nat.ble (cap' + 1) h with | true => none | false => some h) = some h
                      rw [h2]
                    exact this
                  · cases hh
                have hb := sliceBounds2 (P := E.P) (w := w) (isS := true) (by simpa using hh') hl rl rh
                cases h0 : Nat.beq l 0 with
                | true =>
                  have := nbeq_eq h0
                  subst this
                  simp only [Option.some.injEq] at hy
                  subst hy
                  refine ⟨_, slice_run ok hd hs hb, ?_⟩
                  simp only [Nat.sub_zero, Nat.zero_mul, Option.map_some, Addr.add_none, Nat.add_zero, ite_self]
                  exact .sliceU hι (by omega) (by assumption)
                | false =>
                  simp only [h0] at hy
                  cases h1 : Nat.ble len l with
                  | true =>
                    have := nble_le h1
                    simp only [h1, Option.some.injEq] at hy
                    subst hy
                    have e1 : h = l := by omega
                    subst e1
                    refine ⟨_, slice_run ok hd hs hb, ?_⟩
                    rw [Nat.sub_self]
                    by_cases e : cap' = h
                    · rw [if_pos e]; exact .empty _ _
                    · rw [if_neg e]; exact .empty _ _
                  | false =>
                    have := nble_lt h1
                    simp only [h1, Option.some.injEq] at hy
                    subst hy
                    have e1 : cap' ≠ l := by omega
                    refine ⟨_, slice_run ok hd hs hb, ?_⟩
                    rw [if_neg e1, Option.map_some, Addr.add_none, Nat.add_assoc]
                    refine .sliceU hι (by omega) ?_
                    have e2 : l * es + (cap' - l) * es = cap' * es := by rw [← Nat.add_mul]; congr 1; omega
                    omega
  · -- a nil slice
    rename_i elem hd
    cases hx
    · cases hs : sizT E elem with
      | none => simp [hs] at hy
      | some n0 =>
      simp only [hs] at hy
      cases hm : bound mx 0 0 with
      | none => simp [hm] at hy
      | some m =>
        simp only [hm] at hy
        have hmle := bound_le hm (Nat.le_refl _)
        have key : ∀ h l, (match hi with | none => (match mx with | none => some 0 | some _ => none) | some _ => bound hi 0 m) = some h → bound lo 0 h = some l →
            (Instr.sliceBounds true 0 0 lo' hi' mx').run E.P w = .ok (l, h, m) w := by
          intro h l hh hl
          cases mx with
          | none =>
            have hm' : mx' = none := by rcases rm with ⟨_, h⟩ | ⟨_, _, h, _⟩; exact h; cases h
            subst hm'
            simp [bound] at hm; subst hm
            refine sliceBounds2 (isS := true) ?_ hl rl rh
            cases hi with
            | none => simpa [bound] using hh
            | some _ => simpa using hh
          | some _ =>
            cases hi with
            | none => cases hh
            | some _ => exact sliceBounds3 hm (by simp) (by simp) hh hl rl rh rm
        split at hy
        · cases hy
        · rename_i h hh
          have hh0 : h ≤ m := by
            cases hi with
            | none => cases mx with
              | none => simp at hh; omega
              | some _ => cases hh
            | some _ => exact bound_le hh (Nat.zero_le _)
          cases hl : bound lo 0 h with
          | none => simp [hl] at hy
          | some l =>
            simp only [hl, Option.some.injEq] at hy
            have hll := bound_le hl (Nat.zero_le _)
            have hb := key h l hh hl
            subst hy
            have e1 : h = 0 := by omega
            have e2 : l = 0 := by omega
            have e3 : m = 0 := by omega
            subst e1; subst e2; subst e3
            exact ⟨_, slice_run ok hd hs hb, by simpa using VRel.nilsl⟩
  · -- an array behind a pointer
    rename_i len elem b o hd
    split at hy <;> try (cases hy; done)
    rename_i n hs hlen
    have hm' : mx' = none := by rcases rm with ⟨_, h⟩ | ⟨_, _, h, _⟩; exact h; cases h
    subst hm'
    cases hx
    rename_i cb co hι
    cases hh : bound hi len len with
    | none => simp [hh] at hy
    | some h =>
      simp only [hh] at hy
      cases hl : bound lo 0 h with
      | none => simp [hl] at hy
      | some l =>
        simp only [hl, Option.some.injEq] at hy
        have hb := sliceBounds2 (P := E.P) (w := w) (isS := false) (by simpa using hh) hl rl rh
        subst hy
        have hlen' := nble_le hlen
        have hrun : ((do pure (.value (← Instr.sliceAt t (.pointer (some ⟨cb, co + o, none⟩)) lo' hi' none)) : Sem Next).run E.P w) =
            .ok (.value (.slice (some (if len = l then ⟨cb, co + o, none⟩ else (⟨cb, co + o, none⟩ : Addr).add (l * n))) (h - l) (len - l))) w := by
          simp [Instr.sliceAt, run_und ok hd, Instr.sureAddr, hb, run_siz ok hs]
        have hc : len - l < capU := by unfold capU; omega
        refine ⟨_, hrun, ?_⟩
        cases e : Nat.beq len l with
        | true => rw [if_pos (nbeq_eq e)]; exact .slice hι hc
        | false => rw [if_neg (nbeq_ne e), Addr.add_none, Nat.add_assoc]; exact .slice hι hc
end ops
end Go.Ex

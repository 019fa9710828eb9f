/- Operations side by side, the third part: composite values, new rows, conversions. -/
import Derived.Test.YtpnfkkoflppkhaaGreatDoorExOps2
noncomputable section
namespace Go.Ex

section ops
variable {E : Env} {w0 w : World} {ι : Ren} {σ : Nat → Nat} {H : AH} {r : Nat → Value} {tmps : Array Value}

theorem iface_ok (ok : EnvOk E) (R : HRel E w0 ι σ H w) (t : TypeId) {x x' : Value} (hx : VRel ι σ x x') :
    ResOk E w0 ι σ H w (aIface E t x H) ((do pure (.value (← Instr.makeInterface t x')) : Sem Next).run E.P w) := by
  unfold aIface
  cases hd : E.und.get t with
  | none => trivial
  | some d =>
    cases d <;> simp only <;> first | trivial | exact ResOk.val_same R (by simp [Instr.makeInterface, run_und ok hd]) (.iface t hx)

theorem map_ev (R : HRel E w0 ι σ H w) (hr : ∀ t, VRel ι σ (r t) (tmps.getD t undef)) (xs : Array Operand) :
    VsRel ι σ (xs.map (ev E · r)).toList (xs.map (evC tmps)).toList := by
  rw [Array.toList_map, Array.toList_map]
  exact .of_l2 (L2.map_same _ fun x => ev_rel R hr x)

theorem func_ok (R : HRel E w0 ι σ H w) (hr : ∀ t, VRel ι σ (r t) (tmps.getD t undef)) (fn : Fn) (first captured : Array Operand) :
    ResOk E w0 ι σ H w (aFunc E r fn first captured H) ((do pure (.value (← Instr.makeFunc fn (first.map (evC tmps)) (captured.map (evC tmps)))) : Sem Next).run E.P w) := by
  cases fn <;> simp only [aFunc] <;> first
    | trivial
    | exact ResOk.val_same R (by simp [Instr.makeFunc]) (.func rfl (map_ev R hr first) (map_ev R hr captured))

theorem map_ok (R : HRel E w0 ι σ H w) (t : TypeId) (s : Option Operand) (ρ : Operand → Value) :
    ResOk E w0 ι σ H w (aMap H s) ((do pure (.value (← Instr.makeMap t (s.map ρ))) : Sem Next).run E.P w) := by
  cases s with
  | some _ => trivial
  | none =>
    simp only [aMap]
    cases ha : alloc H (.map [] 0) with
    | none => trivial
    | some p =>
      obtain ⟨b, H'⟩ := p
      obtain ⟨ι', σ', h1, h2, h3, rfl, h5⟩ := alloc_rel R ha (.map #[] 0) fun _ _ _ => ⟨rfl, rfl, .nil⟩
      exact ⟨ι', σ', _, _, by simp [Instr.makeMap], h1, h3, .map h2, Nat.le_of_lt h5⟩

theorem extract_ok (R : HRel E w0 ι σ H w) (i : Nat) {x x' : Value} (hx : VRel ι σ x x') :
    ResOk E w0 ι σ H w (aExtract x i H) ((do pure (.value (← Instr.extract x' i)) : Sem Next).run E.P w) := by
  cases hx <;> simp only [aExtract] <;> try trivial
  rename_i a a' h
  refine ResOk.val_opt R fun y hy => ?_
  rw [getAll_eq] at hy
  obtain ⟨y', h1, h2⟩ := h.l2.get hy
  have h1' : a'[i]? = some y' := by rw [← h1]; simp
  exact ⟨y', by simp [Instr.extract, h1'], h2⟩

theorem zero_rel {t : TypeId} {z : Value} (h : zeroP E t = some z) : VRel ι σ z z := plain1_refl (zeroP_some h).2

theorem assert_ok (ok : EnvOk E) (R : HRel E w0 ι σ H w) (xt asserted : TypeId) (c : Bool) {x x' : Value} (hx : VRel ι σ x x') :
    ResOk E w0 ι σ H w (val (typeAssertV E x asserted c) H) ((do pure (.value (← Instr.typeAssert x' xt asserted c)) : Sem Next).run E.P w) := by
  refine ResOk.val_opt R fun y hy => ?_
  unfold typeAssertV at hy
  cases hd : E.und.get asserted with
  | none => simp [hd] at hy
  | some d =>
    simp only [hd] at hy
    cases hb : isIface d with
    | true => simp [hb] at hy
    | false =>
    simp only [hb] at hy
    have hnot : ∀ m, d ≠ .interface m := by rintro m rfl; cases hb
    have hu := run_und (w := w) ok hd
    have hy' := hy
    clear hy
    cases hx <;> simp only [assertV] at hy' <;> try (cases hy'; done)
    · rename_i t v v' hv
      cases he : Nat.beq t asserted with
      | true =>
        simp only [he, Option.some.injEq] at hy'
        have := nbeq_eq he
        subst this
        cases c with
        | true =>
          simp only at hy'
          subst hy'
          refine ⟨.tuple #[v', .bool true], ?_, .tuple (.cons hv (.cons (.bool _) .nil))⟩
          cases d <;> first | (exfalso; exact hnot _ rfl) | simp [Instr.typeAssert, hu]
        | false =>
          simp only at hy'
          subst hy'
          refine ⟨v', ?_, hv⟩
          cases d <;> first | (exfalso; exact hnot _ rfl) | simp [Instr.typeAssert, hu]
      | false =>
        simp only [he] at hy'
        have hne := nbeq_ne he
        cases c with
        | false => cases hy'
        | true =>
          cases hz : zeroP E asserted with
          | none => simp [hz] at hy'
          | some z =>
            simp only [hz, Option.some.injEq] at hy'
            subst hy'
            refine ⟨.tuple #[z, .bool false], ?_, .tuple (.cons (zero_rel hz) (.cons (.bool _) .nil))⟩
            cases d <;> first | (exfalso; exact hnot _ rfl) | simp [Instr.typeAssert, hu, hne, run_zer ok (zeroP_some hz).1]
    · cases c with
      | false => cases hy'
      | true =>
        cases hz : zeroP E asserted with
        | none => simp [hz] at hy'
        | some z =>
          simp only [hz, Option.some.injEq] at hy'
          subst hy'
          refine ⟨.tuple #[z, .bool false], ?_, .tuple (.cons (zero_rel hz) (.cons (.bool _) .nil))⟩
          cases d <;> first | (exfalso; exact hnot _ rfl) | simp [Instr.typeAssert, hu, run_zer ok (zeroP_some hz).1]

theorem pick_ok (R : HRel E w0 ι σ H w) {c c' a a' b b' : Value} (hc : VRel ι σ c c') (ha : VRel ι σ a a') (hb : VRel ι σ b b') :
    ResOk E w0 ι σ H w (aPick c a b H) ((do pure (.value (if ← asBool c' then a' else b')) : Sem Next).run E.P w) := by
  unfold aPick
  split
  · cases hc; exact ResOk.val_same R (by simp [asBool]) ha
  · cases hc; exact ResOk.val_same R (by simp [asBool]) hb
  · trivial

/-! composite values -/
theorem foldl_over : ∀ (vs : List Value) (k off : Nat) (cs : Array Value),
    ((vs.zipIdx k).foldl (fun (cs : Array Value) (p : Value × Nat) => cs.setIfInBounds (off + p.2) p.1) cs).toList = over cs.toList (off + k) vs
  | [], _, _, _ => by simp [over]
  | v :: vs, k, off, cs => by
    simp only [List.zipIdx_cons, List.foldl_cons, over, setAll_eq]
    rw [foldl_over vs (k + 1) off]
    simp [Array.toList_setIfInBounds, Nat.add_assoc]

def PRel (ι : Ren) (σ : Nat → Nat) (p p' : Nat × Value) : Prop := p'.1 = p.1 ∧ VRel ι σ p.2 p'.2

theorem fill_rel (place place' : Nat → Option (Nat × Nat)) (hp : ∀ i x, place i = some x → place' i = some x) :
    ∀ (parts parts' : List (Nat × Value)) (cs : List Value) (cs' : Array Value) (out : List Value), L2 (PRel ι σ) parts parts' → VsRel ι σ cs cs'.toList →
      fillL place cs parts = some out → ∃ out' : Array Value, Instr.fill place' cs' parts' = some out' ∧ VsRel ι σ out out'.toList
  | [], _, cs, cs', out, .nil, hc, h => by simp [fillL] at h; subst h; exact ⟨cs', by simp [Instr.fill], hc⟩
  | (i, v) :: rest, _, cs, cs', out, .cons (b := (i', v')) (bs := rest') hpv ht, hc, h => by
    obtain ⟨he, hv⟩ := hpv
    simp only at he hv
    subst he
    simp only [fillL] at h
    cases hpl : place i' with
    | none => simp [hpl] at h
    | some x =>
      obtain ⟨off, size⟩ := x
      simp only [hpl] at h
      have hf : ∀ k b, v ≠ .float k b := by rintro k b rfl; cases h
      have h2 : (match (Nat.beq v.cells.toList.length size && Nat.ble (off + size) cs.length) with | true => fillL place (over cs off v.cells.toList) rest | false => none) = some out := by
        cases v <;> first | exact h | exact absurd rfl (hf _ _)
      cases hb : (Nat.beq v.cells.toList.length size && Nat.ble (off + size) cs.length) with
      | false => rw [hb] at h2; cases h2
      | true =>
        rw [hb] at h2
        simp only [Bool.and_eq_true] at hb
        have hlen := nbeq_eq hb.1
        have hle := nble_le hb.2
        have hcr := cells_rel hv hf
        have hl' := hcr.l2.length
        have hcl := hc.l2.length
        obtain ⟨out', h3, h4⟩ := fill_rel place place' hp rest rest' (over cs off v.cells.toList) (v'.cells.zipIdx.foldl (fun (cs : Array Value) (p : Value × Nat) => cs.setIfInBounds (off + p.2) p.1) cs') out ht (by
          have e : (v'.cells.zipIdx.foldl (fun (cs : Array Value) (p : Value × Nat) => cs.setIfInBounds (off + p.2) p.1) cs').toList = over cs'.toList off v'.cells.toList := by
            have := foldl_over v'.cells.toList 0 off cs'
            rw [Nat.add_zero] at this
            rw [← this]
            rw [← Array.foldl_toList, Array.toList_zipIdx]
          rw [e]
          exact .of_l2 (hc.l2.over hcr.l2 off)) h2
        refine ⟨out', ?_, h4⟩
        simp only [Instr.fill, hp _ _ hpl]
        have e1 : v'.cells.size = size := by rw [← hlen, hl']; simp
        have e2 : off + size ≤ cs'.size := by rw [hcl] at hle; simpa using hle
        rw [if_neg (by simp [e1]; omega)]
        exact h3

theorem parts_rel (R : HRel E w0 ι σ H w) (hr : ∀ t, VRel ι σ (r t) (tmps.getD t undef)) (ps : Array (Nat × Operand)) :
    L2 (PRel ι σ) (partsOf E r ps.toList) (ps.map fun p => (p.1, evC tmps p.2)).toList := by
  rw [Array.toList_map]
  exact L2.map_same _ fun p => ⟨rfl, ev_rel R hr p.2⟩

theorem places_run (ok : EnvOk E) : ∀ (fs : List Field), (fs.map fun f => match sizT E f.type with | some n => some (f.offset, n) | none => none).all Option.isSome = true →
    ∃ pl : List (Nat × Nat), (fs.mapM fun f => Prod.mk f.offset <$> sizeOf f.type).run E.P w = .ok pl w ∧
      ∀ i x, (getAll (fs.map fun f => match sizT E f.type with | some n => some (f.offset, n) | none => none) i).join = some x → pl[i]? = some x
  | [], _ => ⟨[], by simp, fun i x h => by simp [getAll_eq] at h⟩
  | f :: fs, h => by
    simp only [List.map_cons, List.all_cons, Bool.and_eq_true] at h
    obtain ⟨pl, h1, h2⟩ := places_run ok fs h.2
    cases hs : sizT E f.type with
    | none => rw [hs] at h; simp at h
    | some n =>
      refine ⟨(f.offset, n) :: pl, by simp [List.mapM_cons, run_siz ok hs, h1], fun i x hx => ?_⟩
      cases i with
      | zero => simp [getAll_eq, hs] at hx; simp [hx]
      | succ i =>
        have := h2 i x (by rw [getAll_eq] at hx ⊢; simpa using hx)
        simpa using this

theorem build_ok (ok : EnvOk E) (R : HRel E w0 ι σ H w) (hr : ∀ t, VRel ι σ (r t) (tmps.getD t undef)) (t : TypeId) (ps : Array (Nat × Operand)) :
    ResOk E w0 ι σ H w (val (buildV E t (partsOf E r ps.toList)) H) ((do pure (.value (← Instr.build t (ps.map fun p => (p.1, evC tmps p.2)))) : Sem Next).run E.P w) := by
  refine ResOk.val_opt R fun y hy => ?_
  unfold buildV at hy
  cases hz : zeroP E t with
  | none => simp [hz] at hy
  | some z =>
    simp only [hz] at hy
    obtain ⟨hz1, hz2⟩ := zeroP_some hz
    have hzc := cells_rel (ι := ι) (σ := σ) (plain1_refl hz2) (by rintro k b rfl; simp [plain1, plainV] at hz2)
    cases hd : E.und.get t with
    | none => simp [hd] at hy
    | some d =>
      cases d <;> simp only [hd] at hy <;> try (cases hy; done)
      · rename_i elem_n elem
        cases hs : sizT E elem with
        | none => simp [hs] at hy
        | some n =>
          simp only [hs] at hy
          cases hfl : fillL (fun i => some (i * n, n)) z.cells.toList (partsOf E r ps.toList) with
          | none => simp [hfl] at hy
          | some cs =>
            simp only [hfl, Option.some.injEq] at hy
            subst hy
            obtain ⟨out', h1, h2⟩ := fill_rel (fun i => some (i * n, n)) (fun i => some (i * n, n)) (fun _ _ h => h) _ _ _ z.cells _ (parts_rel R hr ps) hzc hfl
            refine ⟨.agg out', ?_, .agg (by simpa using h2)⟩
            simp [Instr.build, run_zer ok hz1, run_und ok hd, run_siz ok hs] at h1 ⊢
            rw [h1]
            rfl
      · rename_i fields
        cases hall : (fieldPlaces E fields).all Option.isSome with
        | false => simp [hall] at hy
        | true =>
          simp only [hall] at hy
          cases hfl : fillL (fun i => (getAll (fieldPlaces E fields) i).join) z.cells.toList (partsOf E r ps.toList) with
          | none => simp [hfl] at hy
          | some cs =>
            simp only [hfl, Option.some.injEq] at hy
            subst hy
            obtain ⟨pl, h1, h2⟩ := places_run (w := w) ok fields.toList hall
            obtain ⟨out', h3, h4⟩ := fill_rel _ (fun i => pl.toArray[i]?) (fun i x hx => by simpa using h2 i x hx) _ _ _ z.cells _ (parts_rel R hr ps) hzc hfl
            refine ⟨.agg out', ?_, .agg (by simpa using h4)⟩
            simp [Instr.build, run_zer ok hz1, run_und ok hd, Array.mapM_eq_mapM_toList, h1] at h3 ⊢
            rw [h3]
            rfl
end ops
end Go.Ex

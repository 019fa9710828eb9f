/- Operations side by side, the eighth part: maps, calls; all operations. -/
import Derived.Test.YtpnfkkoflppkhaaGreatDoorExOps7
noncomputable section
namespace Go.Ex

section ops
variable {E : Env} {w0 w : World} {ι : Ren} {σ : Nat → Nat} {H : AH} {r : Nat → Value} {tmps : Array Value}

theorem findNow_rel {kind : TypeDesc} {k : Value} : ∀ {es es' : List MapEntry} (i : Nat), L2 (ERel ι σ) es es' → plainKeys es = true → ∀ {res : Option (Nat × Value)},
    Instr.findNow kind k es i = some res → match res with
      | none => Instr.findNow kind k es' i = some none
      | some (j, v) => ∃ v' e', Instr.findNow kind k es' i = some (some (j, v')) ∧ VRel ι σ v v' ∧ i ≤ j ∧ es'[j - i]? = some e' ∧ Instr.sameNow kind k e'.key = some true
  | [], _, i, .nil, _, res, h => by
    simp [Instr.findNow] at h; subst h; simp [Instr.findNow]
  | e :: es, _, i, .cons (b := e') (bs := es') hr ht, hp, res, h => by
    simp only [plainKeys, List.all_cons, Bool.and_eq_true] at hp
    have hk := plain1_eq hp.1 hr.1
    simp only [Instr.findNow] at h ⊢
    rw [hk]
    cases hs : Instr.sameNow kind k e.key with
    | none => rw [hs] at h; cases h
    | some b =>
      rw [hs] at h
      cases b with
      | true =>
        simp only [Option.some.injEq] at h
        subst h
        exact ⟨e'.val, e', rfl, hr.2.1, Nat.le_refl _, by simp, by rw [hk]; exact hs⟩
      | false =>
        simp only at h
        have := findNow_rel (i + 1) ht hp.2 h
        cases res with
        | none => exact this
        | some p =>
          obtain ⟨j, v⟩ := p
          obtain ⟨v', e1, h1, h2, h3, h4, h5⟩ := this
          refine ⟨v', e1, h1, h2, by omega, ?_, h5⟩
          rw [show j - i = (j - (i + 1)) + 1 by omega]; simpa using h4

theorem ba_eq {a b : ByteArray} (h : (a == b) = true) : a = b := by
  obtain ⟨a⟩ := a; obtain ⟨b⟩ := b
  have h' : ByteArray.beq ⟨a⟩ ⟨b⟩ = true := h
  simp only [ByteArray.beq] at h'
  simp at h'
  rw [h']
theorem ba_refl (a : ByteArray) : (a == a) = true := by
  show ByteArray.beq a a = true
  simp [ByteArray.beq]

theorem check_int (ok : EnvOk E) {key : TypeId} {k0 : IntKind} (hkd : E.und.get key = some (.int k0)) (v : Value) (n : Nat) (b : Bool) : (Instr.checkKey b (n + 1) key v).run E.P w = .ok () w := by
  simp [Instr.checkKey, run_und ok hkd]
theorem check_str (ok : EnvOk E) {key : TypeId} (hkd : E.und.get key = some .string) (v : Value) (n : Nat) (b : Bool) : (Instr.checkKey b (n + 1) key v).run E.P w = .ok () w := by
  simp [Instr.checkKey, run_und ok hkd]

theorem keyOk_spec (ok : EnvOk E) {key : TypeId} {kd : TypeDesc} {k k' : Value} (hkd : E.und.get key = some kd) (h : keyOk kd k = true) (hk : VRel ι σ k k') :
    k' = k ∧ (∀ b, (Instr.checkKey b 10000 key k').run E.P w = .ok () w) ∧ ∀ e, Instr.sameNow kd k e = some true → Instr.sameBits 10000 e k = true := by
  unfold keyOk at h
  split at h <;> try (cases h; done)
  · cases hk
    refine ⟨rfl, fun b => check_int ok hkd _ 9999 b, fun e he => ?_⟩
    cases e <;> simp only [Instr.sameNow] at he <;> try (cases he; done)
    split at he <;> try (cases he; done)
    rename_i hkk
    subst hkk
    simp at he
    subst he
    simp [Instr.sameBits]
  · cases hk
    refine ⟨rfl, fun b => check_str ok hkd _ 9999 b, fun e he => ?_⟩
    cases e <;> simp only [Instr.sameNow, Option.some.injEq] at he <;> try (cases he; done)
    rw [ba_eq he]
    exact ba_refl _

theorem entriesOf_spec (R : HRel E w0 ι σ H w) {x x' : Value} {r clock : Nat} {es : List MapEntry} (h : entriesOf H x = some (r, es, clock)) (hx : VRel ι σ x x') :
    ∃ r' es', x' = .map (some r') ∧ H.m.get r = some (.map es clock) ∧ ι r = some (r', 0) ∧ plainKeys es = true ∧ w.heap[r']? = some (.map es' clock) ∧ L2 (ERel ι σ) es es'.toList := by
  unfold entriesOf at h
  split at h <;> try (cases h; done)
  rename_i r0
  cases hx
  rename_i r' hι
  cases hg : H.m.get r0 with
  | none => simp [hg] at h
  | some o =>
    cases o <;> simp only [hg] at h <;> try (cases h; done)
    rename_i es0 clock0
    cases hpk : plainKeys es0 with
    | false => simp [hpk] at h
    | true =>
      simp only [hpk, Option.some.injEq, Prod.mk.injEq] at h
      obtain ⟨rfl, rfl, rfl⟩ := h
      obtain ⟨cc, h2, h3⟩ := R.blk _ _ hg _ hι
      cases cc <;> simp only [ORel] at h3
      rename_i es' clock'
      obtain ⟨_, rfl, h5⟩ := h3
      exact ⟨r', es', rfl, hg, hι, hpk, h2, h5⟩

theorem lookup_ok (ok : EnvOk E) (R : HRel E w0 ι σ H w) (t : TypeId) (c : Bool) {x x' k k' : Value} (hx : VRel ι σ x x') (hk : VRel ι σ k k') :
    ResOk E w0 ι σ H w (val (lookupV E H t x k c) H) ((do pure (.value (← Instr.lookup t x' k' c)) : Sem Next).run E.P w) := by
  refine ResOk.val_opt R fun y hy => ?_
  unfold lookupV at hy
  split at hy <;> try (cases hy; done)
  rename_i key elem hd
  cases hkd : E.und.get key with
  | none => simp [hkd] at hy
  | some kd =>
    simp only [hkd] at hy
    unfold lookK at hy
    split at hy <;> try (cases hy; done)
    rename_i r es clock hko hen
    obtain ⟨rfl, hck, _⟩ := keyOk_spec (w := w) ok hkd hko hk
    obtain ⟨r', es', rfl, hg, hι, hpk, h2, h5⟩ := entriesOf_spec R hen hx
    have hgo := getObj_at (P := E.P) h2 (by intros; simp)
    cases hfn : Instr.findNow kd k' es 0 with
    | none => simp [hfn, lookE] at hy
    | some res =>
      have hrel := findNow_rel (k := k') 0 h5 hpk hfn
      rw [hfn] at hy
      cases res with
      | none =>
        simp only [lookE] at hy
        cases hz : zeroP E elem with
        | none => simp [hz] at hy
        | some z =>
          simp only [hz, Option.some.injEq] at hy
          have hfk : (Instr.findKey key k' es'.toList).run E.P w = .ok none w := by
            simp only [Instr.findKey, Sem.run_bind, run_und ok hkd, Result.andThen_ok, hrel, Sem.run_pure]
          refine ⟨if c then .tuple #[z, .bool false] else z, ?_, ?_⟩
          · simp [Instr.lookup, run_und ok hd, hgo, hck, hfk, run_zer ok (zeroP_some hz).1]
          · subst hy
            cases c
            · exact zero_rel hz
            · exact .tuple (.cons (zero_rel hz) (.cons (.bool _) .nil))
      | some p =>
        obtain ⟨j, v⟩ := p
        simp only [lookE, Option.some.injEq] at hy
        obtain ⟨v', e', h6, h7, _⟩ := hrel
        have hfk : (Instr.findKey key k' es'.toList).run E.P w = .ok (some (j, v')) w := by
          simp only [Instr.findKey, Sem.run_bind, run_und ok hkd, Result.andThen_ok, h6, Sem.run_pure]
        refine ⟨if c then .tuple #[v', .bool true] else v', ?_, ?_⟩
        · simp [Instr.lookup, run_und ok hd, hgo, hck, hfk]
        · subst hy
          cases c
          · exact h7
          · exact .tuple (.cons h7 (.cons (.bool _) .nil))

theorem mapPut_ok (ok : EnvOk E) (R : HRel E w0 ι σ H w) (t : TypeId) {m m' k k' v v' : Value} (hm : VRel ι σ m m') (hk : VRel ι σ k k') (hv : VRel ι σ v v') :
    ResOk E w0 ι σ H w (doneH (mapPut E H t m k v)) ((do Instr.mapUpdate t m' k' v'; pure .skip : Sem Next).run E.P w) := by
  unfold mapPut
  split
  rotate_left
  · trivial
  rename_i key elem hd
  cases hkd : E.und.get key with
  | none => trivial
  | some kd =>
    simp only
    unfold putK
    split
    rotate_left
    · trivial
    rename_i r es clock hko hen
    obtain ⟨rfl, hck, hsb⟩ := keyOk_spec (w := w) ok hkd hko hk
    obtain ⟨r', es', rfl, hg, hι, hpk, h2, h5⟩ := entriesOf_spec R hen hm
    have hgo := getObj_at (P := E.P) h2 (by intros; simp)
    have hso := fun o' => setObj_at (P := E.P) (o' := o') h2 (by intros; simp)
    cases hb : (Nat.ble E.base r && Nat.ble r 100000) with
    | false => trivial
    | true =>
      simp only [Bool.and_eq_true] at hb
      have b1 := nble_le hb.1
      have b2 := nble_le hb.2
      simp only
      cases hfn : Instr.findNow kd k' es 0 with
      | none => trivial
      | some res =>
        have hrel := findNow_rel (k := k') 0 h5 hpk hfn
        cases res with
        | none =>
          simp only [putE, doneH]
          have hfk : (Instr.findKey key k' es'.toList).run E.P w = .ok none w := by
            simp only [Instr.findKey, Sem.run_bind, run_und ok hkd, Result.andThen_ok, hrel, Sem.run_pure]
          refine ⟨ι, σ, { w with heap := w.heap.setIfInBounds r' (.map (es'.push { key := k', val := v', born := clock }) (clock + 1)) }, ?_, Ext.refl _ _ _,
            setObj_rel R hg hι b1 b2 ⟨rfl, rfl, ?_⟩ (by intros; simp), Nat.le_refl _⟩
          · simp [Instr.mapUpdate, run_und ok hd, hgo, hck, hfk, hso]
          · simp only [Array.toList_push]
            exact h5.append (.cons ⟨hk, hv, rfl⟩ .nil)
        | some p =>
          obtain ⟨j, u⟩ := p
          obtain ⟨u', e', h6, _, _, h8, h9⟩ := hrel
          simp only [putE, getAll_eq, setAll_eq]
          cases hej : es[j]? with
          | none => trivial
          | some e =>
            simp only [doneH]
            simp only [Nat.sub_zero] at h8
            have hfk : (Instr.findKey key k' es'.toList).run E.P w = .ok (some (j, u')) w := by
              simp only [Instr.findKey, Sem.run_bind, run_und ok hkd, Result.andThen_ok, h6, Sem.run_pure]
            have h8' : es'[j]? = some e' := by rw [← h8]; simp
            have hst : (Instr.keyThatStays (((es'[j]?).map (·.key)).getD k') k').run E.P w = .ok k' w := by
              simp [Instr.keyThatStays, h8', hsb _ h9]
            obtain ⟨e2, h10, h11⟩ := h5.get hej
            have : e2 = e' := by rw [h8] at h10; exact (Option.some.inj h10).symm
            subst this
            refine ⟨ι, σ, { w with heap := w.heap.setIfInBounds r' (.map (es'.modify j fun e => { e with key := k', val := v' }) clock) }, ?_, Ext.refl _ _ _,
              setObj_rel R hg hι b1 b2 ⟨rfl, rfl, ?_⟩ (by intros; simp), Nat.le_refl _⟩
            · simp only [Sem.run_bind, Instr.mapUpdate, run_und ok hd, Result.andThen_ok, hgo, hck, hfk, hst, hso, Sem.run_pure]
            · have : (es'.modify j fun e => { e with key := k', val := v' }).toList = es'.toList.set j { key := k', val := v', born := e2.born } := by
                apply List.ext_getElem?
                intro i
                rw [Array.getElem?_toList, Array.getElem?_modify, List.getElem?_set]
                by_cases hij : j = i
                · subst hij
                  have hl : j < es'.size := by
                    rcases Nat.lt_or_ge j es'.size with h | h
                    · exact h
                    · rw [Array.getElem?_eq_none h] at h8'; cases h8'
                  obtain ⟨_, hg'⟩ := Array.getElem?_eq_some_iff.1 h8'
                  simp [hl, hg']
                · simp [hij]
              rw [this]
              exact h5.set j ⟨hk, hv, h11.2.2⟩
end ops
end Go.Ex

/- Steps side by side, the fifth part: control; the executor is sound. -/
import Derived.Test.YtpnfkkoflppkhaaGreatDoorExSnd4
noncomputable section
namespace Go.Ex

section snd
variable {E : Env} {w0 w w' : World} {ι : Ren} {σ : Nat → Nat} {H : AH} {lo hi : Nat} {cs0 : List Frame}

theorem itc (c : Code) : ItRel ι (.it (.code c)) (.code c) := rfl
theorem itb (c : Nat) : ItRel ι (.it (.inBlock c)) (.inBlock c) := rfl
theorem itl (c : Code) : ItRel ι (.it (.inLoop c)) (.inLoop c) := rfl
theorem its (c : Code) : ItRel ι (.it (.inScope c)) (.inScope c) := rfl

theorem endRange_some {fx : Fx} {tm : T Value} {acs : List AFr} {l : Nat} {k : List AItem} {s' : AM} (h : endRangeA E fx tm H acs l k = some s') :
    ∃ st pending fn n tm' params assign body defers, H.m.get l = some (.loop st pending fn n tm' params assign body defers) ∧ E.base ≤ l ∧ l ≤ 100000 ∧ st ≠ .busy ∧
      s' = ⟨{ H with m := H.m.set l (.loop .exhausted pending fn n tm' params assign body defers) }, ⟨fx, tm, (pending.map fun c => AItem.it (.code c)).toList ++ k, .run⟩, acs⟩ := by
  unfold endRangeA at h
  split at h <;> try (cases h; done)
  rename_i st pending fn n tm' params assign body defers hg
  cases pending with
  | none =>
    split at h <;> try (cases h; done)
    rename_i hb
    simp only [Bool.and_eq_true] at hb
    refine ⟨st, none, fn, n, tm', params, assign, body, defers, hg, nble_le hb.1.1, nble_le hb.1.2, ?_, ?_⟩
    · intro e; subst e; exact absurd hb.2 (by simp)
    · simp only [goA, Option.some.injEq] at h; exact h.symm
  | some c =>
    split at h <;> try (cases h; done)
    rename_i hb
    simp only [Bool.and_eq_true] at hb
    refine ⟨st, some c, fn, n, tm', params, assign, body, defers, hg, nble_le hb.1.1, nble_le hb.1.2, ?_, ?_⟩
    · intro e; subst e; exact absurd hb.2 (by simp)
    · simp only [goA, Option.some.injEq] at h; exact h.symm

theorem exit_rel (id : Nat) : ∀ {k : List AItem} {ck : List Item}, L2 (ItRel ι) k ck →
    (∀ k', exitA id k = some k' → ∃ ck', exitTo id ck = some ck' ∧ L2 (ItRel ι) k' ck') ∧ (noExit id k = true → exitTo id ck = none)
  | _, _, .nil => ⟨fun k' h => (by cases h), fun _ => rfl⟩
  | _, _, .cons (a := a) (b := i) (as := as) (bs := is) h t => by
    have ih := exit_rel id t
    cases a with
    | reg ops rest => exact ⟨fun k' h => (by cases h), fun h => (by cases h)⟩
    | dphase ops t0 prev rest => exact ⟨fun k' h => (by cases h), fun h => (by cases h)⟩
    | dchain ops t0 prev rest => exact ⟨fun k' h => (by cases h), fun h => (by cases h)⟩
    | it x =>
      cases x with
      | code c => have e : i = .code c := h; subst e; exact ih
      | inLoop c => have e : i = .inLoop c := h; subst e; exact ih
      | inScope c => have e : i = .inScope c := h; subst e; exact ih
      | beginRound => have e : i = .beginRound := h; subst e; exact ih
      | inBlock id' =>
        have e : i = .inBlock id' := h
        subst e
        refine ⟨fun k' h => ?_, fun h => ?_⟩
        · simp only [exitA] at h
          cases hb : Nat.beq id' id with
          | true =>
            rw [hb] at h
            simp only [Option.some.injEq] at h
            subst h
            have := nbeq_eq hb
            subst this
            exact ⟨is, by simp [exitTo], t⟩
          | false =>
            rw [hb] at h
            obtain ⟨ck', h1, h2⟩ := ih.1 k' h
            have hne : id' ≠ id := fun e => by subst e; rw [Nat.beq_refl] at hb; cases hb
            exact ⟨ck', by simp [exitTo, hne, h1], h2⟩
        · simp only [noExit, Bool.and_eq_true] at h
          have hne : id' ≠ id := fun e => by subst e; have := h.1; rw [Nat.beq_refl] at this; cases this
          simp [exitTo, hne, ih.2 h.2]
      | _ => exact ⟨fun k' h => (by cases h), fun h => (by cases h)⟩

theorem goto_rel (l : Nat) : ∀ {k : List AItem} {ck : List Item}, L2 (ItRel ι) k ck → ∀ k', gotoA l k = some k' → ∃ ck', gotoIn l ck = some ck' ∧ L2 (ItRel ι) k' ck'
  | _, _, .nil => fun k' h => by cases h
  | _, _, .cons (a := a) (b := i) (as := as) (bs := is) h t => by
    have ih := goto_rel l t
    cases a with
    | reg ops rest => exact fun k' h => by cases h
    | dphase ops t0 prev rest => exact fun k' h => by cases h
    | dchain ops t0 prev rest => exact fun k' h => by cases h
    | it x =>
      cases x with
      | code c => have e : i = .code c := h; subst e; exact ih
      | inLoop c => have e : i = .inLoop c := h; subst e; exact ih
      | inBlock c => have e : i = .inBlock c := h; subst e; exact ih
      | beginRound => have e : i = .beginRound := h; subst e; exact ih
      | inScope body =>
        have e : i = .inScope body := h
        subst e
        intro k' h
        simp only [gotoA] at h
        cases hf : findLabel body l with
        | none =>
          rw [hf] at h
          obtain ⟨ck', h1, h2⟩ := ih k' h
          exact ⟨ck', by simp [gotoIn, hf, h1], h2⟩
        | some r =>
          rw [hf] at h
          simp only [Option.some.injEq] at h
          subst h
          exact ⟨_, by simp [gotoIn, hf], .cons rfl (.cons rfl t)⟩
      | _ => exact fun k' h => by cases h

/-- A goal of this kind is closed by one step that changes nothing but what is to be done. -/
theorem go_sound {fx : Fx} {tm : T Value} {todo k : List AItem} {fr : Frame} {acs : List AFr} {ccs : List Frame} {i : Item} {ck new : List Item} (R : HRel E w0 ι σ H w)
    (F : FrRel ι σ lo H.next ⟨fx, tm, todo, .run⟩ fr) (hlo : lo ≤ H.next) (S : StRel ι σ lo acs ccs) (hm : fr.mode = .run) (htm : TmRel ι σ fx.n tm fr.tmps) (ht : fr.todo = i :: ck)
    (hk : L2 (ItRel ι) k new)
    (h : ∀ f t d kind r, (stepG.exec E.P true true { fn := f, tmps := t, todo := i :: ck, defers := d, mode := .run, kind, roundOf := r } (ccs ++ cs0) none w).bare =
      .go { frame := { fn := f, tmps := t, todo := new, defers := d, mode := .run, kind, roundOf := r }, callers := ccs ++ cs0, status := .running, dying := none } w) :
    Snd E w0 cs0 ⟨H, ⟨fx, tm, k, .run⟩, acs⟩ fr (ccs ++ cs0) w :=
  ⟨_, _, _, m_exec hm ht h, ι, σ, lo, ccs, rfl, R, F.to hm htm hk, hlo, S⟩

theorem range_sound (ok : EnvOk E) {fx : Fx} {tm : T Value} {f : Operand} {params : Array Tmp} {assign body : Code} {k : List AItem} {fr : Frame} {acs : List AFr} {ccs : List Frame} {s' : AM} (R : HRel E w0 ι σ H w)
    (F : FrRel ι σ lo H.next ⟨fx, tm, .it (.code (.rangeFunc f params assign body)) :: k, .run⟩ fr) (hlo : lo ≤ H.next) (S : StRel ι σ lo acs ccs) (h : rangeFuncA E fx tm H acs f params assign body k = some s') :
    Snd E w0 cs0 s' fr (ccs ++ cs0) w := by
  obtain ⟨ci, ck, ht, hci, hk, hm, htm⟩ := plain_open F
  have hci' : ci = .code (.rangeFunc f params assign body) := hci
  subst hci'
  unfold rangeFuncA at h
  cases hro : fx.roundOf with
  | some l => rw [hro] at h; cases h
  | none =>
    rw [hro] at h
    simp only at h
    have hcro : fr.roundOf = none := by
      have := F.rnd
      rw [hro] at this
      cases hx : fr.roundOf with
      | none => rfl
      | some l => rw [hx] at this; exact this.elim
    cases h1 : alloc H (.defd (some [])) with
    | none => rw [h1] at h; cases h
    | some p =>
      obtain ⟨r, H1⟩ := p
      rw [h1] at h
      simp only at h
      obtain ⟨ι1, σ1, e1, i1, R1, q1, n1⟩ := alloc_rel R h1 (.deferred (some [])) (fun _ _ _ => ⟨rfl, .nil⟩)
      cases h2 : alloc H1 (.loop .ready none fx.fn fx.n tm params assign body r) with
      | none => rw [h2] at h; cases h
      | some p =>
        obtain ⟨l, H2⟩ := p
        rw [h2] at h
        simp only at h
        obtain ⟨ι2, σ2, e2, i2, R2, q2, n2⟩ := alloc_rel R1 h2 (.loop { state := .ready, pending := none, fn := fr.fn, tmps := fr.tmps, params, assign, body, defers := w.heap.size })
          (fun ι' σ' hs => ⟨rfl, rfl, rfl, F.fn, (htm.mono e1.1).mono hs, rfl, rfl, rfl, (hs _ _ i1).1⟩)
        have e12 : Ext H.next ι σ ι2 σ2 := e1.trans (e2.le (Nat.le_of_lt n1))
        have hle : H.next ≤ H2.next := Nat.le_trans (Nat.le_of_lt n1) (Nat.le_of_lt n2)
        have F2 : FrRel ι2 σ2 lo H2.next ⟨⟨fx.fn, fx.n, { target := .collected r, args := #[] } :: fx.defers, fx.kind, none⟩, tm, .it (.inRangeFunc l) :: k, .run⟩
            { fr with todo := .inRangeFunc (w.alloc (.deferred (some []))).heap.size :: ck, defers := { target := .collected w.heap.size, args := #[] } :: fr.defers } := by
          refine ⟨F.fn, F.kind, by simp only; rw [hcro]; trivial, .cons ⟨(e2.1 _ _ i1).1, .nil⟩ (F.def_.mono fun _ _ h => h.mono e12.1), ?_⟩
          simp only
          rw [hm]
          exact .plain (htm.mono e12.1) (.cons ⟨_, rfl, i2⟩ (hk.mono fun _ _ h => h.mono e12.1))
        have hrel := (htm.mono e12.1).2
        have hcall := callV_ok ok R2 (ev_rel R2 hrel f) (args := [.func (.yield l) #[] #[]]) (args' := #[.func (.yield (w.alloc (.deferred (some []))).heap.size) #[] #[]])
          (.cons (.func ⟨_, rfl, i2⟩ .nil .nil) .nil)
        refine apply_sound ok R2 F2 (Nat.le_trans hlo hle) (S.mono (e12.le hlo)) rfl ?_ hcall h
        rw [stepG_run hm]
        obtain ⟨cfn, ctmps, ctodo, cdefers, cmode, ckind, cround⟩ := fr
        simp only at hm hcro ht
        subst hm; subst hcro; subst ht
        have hrun : (Instr.enterLoop cfn ctmps params assign body none).run E.P w = .ok ((w.alloc (.deferred (some []))).heap.size, [{ target := .collected w.heap.size, args := #[] }])
            ((w.alloc (.deferred (some []))).alloc (.loop { state := .ready, pending := none, fn := cfn, tmps := ctmps, params, assign, body, defers := w.heap.size })) := by
          have hnew : ∀ w o, (newObj o).run E.P w = .ok w.heap.size (w.alloc o) := fun _ _ => rfl
          simp [Instr.enterLoop, hnew]
        simp only [stepG.exec, Sem.runT_eq, hrun, GStep.bare_after]
        simp [resolve, evC_frame, evC]

/-- A piece of code. -/
theorem code_sound (ok : EnvOk E) {fx : Fx} {acs : List AFr} {ccs : List Frame} {s' : AM} {tm : T Value} (R : HRel E w0 ι σ H w) (hlo : lo ≤ H.next) (S : StRel ι σ lo acs ccs) : ∀ (c : Code) {k : List AItem} {fr : Frame},
    FrRel ι σ lo H.next ⟨fx, tm, .it (.code c) :: k, .run⟩ fr → (codeF E c).f fx tm H acs k = some s' → Snd E w0 cs0 s' fr (ccs ++ cs0) w := by
  intro c
  induction c with
  | skip =>
    intro k fr F h
    obtain ⟨ci, ck, ht, hci, hk, hm, htm⟩ := plain_open F
    have hci' : ci = _ := hci
    subst hci'
    have h' : some _ = some s' := h
    cases h'
    exact go_sound R F hlo S hm htm ht hk (fun _ _ _ _ _ => by simp [stepG.exec])
  | region id ops draw =>
    intro k fr F h
    cases draw with
    | true => exact draw_sound ok R F hlo S h
    | false =>
      obtain ⟨ci, ck, ht, hci, hk, hm, htm⟩ := plain_open F
      have hci' : ci = _ := hci
      subst hci'
      have hs : Steps E.P (lone fr (ccs ++ cs0) w) (lone { fr with todo := .inRegion ops (List.range ops.size) :: ck } (ccs ++ cs0) w) := m_exec hm ht (fun _ _ _ _ _ => by simp [stepG.exec])
      have F' : FrRel ι σ lo H.next ⟨fx, tm, .reg ops.toList ops.toList :: k, .run⟩ { fr with todo := .inRegion ops (List.range ops.size) :: ck } :=
        F.to hm htm (.cons ⟨ops, [], by simp [List.range_eq_range'], rfl, rfl⟩ hk)
      exact (reg_sound ok _ R F' hlo S h).after hs
  | seq a b iha _ =>
    intro k fr F h
    obtain ⟨ci, ck, ht, hci, hk, hm, htm⟩ := plain_open F
    have hci' : ci = _ := hci
    subst hci'
    exact (iha (F.to hm htm (.cons (itc a) (.cons (itc b) hk))) h).after (m_exec hm ht (fun _ _ _ _ _ => by simp [stepG.exec]))
  | cond c a b iha ihb =>
    intro k fr F h
    obtain ⟨ci, ck, ht, hci, hk, hm, htm⟩ := plain_open F
    have hci' : ci = _ := hci
    subst hci'
    have hev := ev_rel R htm.2 c
    rw [← evC_frame] at hev
    have h' : condA (ev E c (tget tm)) (codeF E a) (codeF E b) fx tm H acs k = some s' := h
    unfold condA at h'
    generalize hv : ev E c (tget tm) = v at h' hev
    cases v <;> try (cases h'; done)
    rename_i x
    have hc : fr.eval c = .bool x := by
      generalize fr.eval c = u at hev
      cases hev; rfl
    have hs := m_cond (w := w) (P := E.P) (cs := ccs ++ cs0) hm ht hc
    cases x with
    | true => exact (iha (F.to hm htm (.cons rfl hk)) h').after hs
    | false => exact (ihb (F.to hm htm (.cons rfl hk)) h').after hs
  | block id body ih =>
    intro k fr F h
    obtain ⟨ci, ck, ht, hci, hk, hm, htm⟩ := plain_open F
    have hci' : ci = _ := hci
    subst hci'
    exact (ih (F.to hm htm (.cons (itc body) (.cons (itb id) hk))) h).after (m_exec hm ht (fun _ _ _ _ _ => by simp [stepG.exec]))
  | loop body ih =>
    intro k fr F h
    obtain ⟨ci, ck, ht, hci, hk, hm, htm⟩ := plain_open F
    have hci' : ci = _ := hci
    subst hci'
    exact (ih (F.to hm htm (.cons (itc body) (.cons (itl body) hk))) h).after (m_exec hm ht (fun _ _ _ _ _ => by simp [stepG.exec]))
  | rangeFunc f params assign body _ _ =>
    intro k fr F h
    exact range_sound ok R F hlo S h
  | exit id =>
    intro k fr F h
    obtain ⟨ci, ck, ht, hci, hk, hm, htm⟩ := plain_open F
    have hci' : ci = _ := hci
    subst hci'
    have h' : outA E fx tm H acs (exitA id k) (noExit id k) (.exit id) = some s' := h
    unfold outA at h'
    have hx := exit_rel id hk
    cases he : exitA id k with
    | some k' =>
      rw [he] at h'
      simp only [goA, Option.some.injEq] at h'
      subst h'
      obtain ⟨ck', h1, h2⟩ := hx.1 k' he
      exact go_sound R F hlo S hm htm ht h2 (fun _ _ _ _ _ => by simp [stepG.exec, h1])
    | none =>
      rw [he] at h'
      simp only at h'
      split at h'
      · rename_i hne
        exact leave_sound R F htm hlo S hm (.inr (.inr ⟨id, ck, rfl, ht, hx.2 hne⟩)) h'
      · cases h'
  | scope body ih =>
    intro k fr F h
    obtain ⟨ci, ck, ht, hci, hk, hm, htm⟩ := plain_open F
    have hci' : ci = _ := hci
    subst hci'
    exact (ih (F.to hm htm (.cons (itc body) (.cons (its body) hk))) h).after (m_exec hm ht (fun _ _ _ _ _ => by simp [stepG.exec]))
  | label l =>
    intro k fr F h
    obtain ⟨ci, ck, ht, hci, hk, hm, htm⟩ := plain_open F
    have hci' : ci = _ := hci
    subst hci'
    have h' : some _ = some s' := h
    cases h'
    exact go_sound R F hlo S hm htm ht hk (fun _ _ _ _ _ => by simp [stepG.exec])
  | goto l =>
    intro k fr F h
    obtain ⟨ci, ck, ht, hci, hk, hm, htm⟩ := plain_open F
    have hci' : ci = _ := hci
    subst hci'
    have h' : outA E fx tm H acs (gotoA l k) false (.goto l) = some s' := h
    unfold outA at h'
    cases he : gotoA l k with
    | some k' =>
      rw [he] at h'
      simp only [goA, Option.some.injEq] at h'
      subst h'
      obtain ⟨ck', h1, h2⟩ := goto_rel l hk k' he
      exact go_sound R F hlo S hm htm ht h2 (fun _ _ _ _ _ => by simp [stepG.exec, h1])
    | none =>
      rw [he] at h'
      simp only at h'
      split at h'
      · rename_i hne; cases hne
      · cases h'
  | ret =>
    intro k fr F h
    obtain ⟨ci, ck, ht, hci, hk, hm, htm⟩ := plain_open F
    have hci' : ci = _ := hci
    subst hci'
    exact leave_sound R F htm hlo S hm (.inr (.inl ⟨ck, rfl, ht⟩)) h
  | refuse why => intro k fr F h; cases h

/-- What is to be done. -/
theorem todo_sound (ok : EnvOk E) {fx : Fx} {acs : List AFr} {ccs : List Frame} {s' : AM} {tm : T Value} {todo : List AItem} {fr : Frame} (R : HRel E w0 ι σ H w) (hlo : lo ≤ H.next) (S : StRel ι σ lo acs ccs)
    (F : FrRel ι σ lo H.next ⟨fx, tm, todo, .run⟩ fr) (h : todoA E fx tm H acs todo = some s') : Snd E w0 cs0 s' fr (ccs ++ cs0) w := by
  cases todo with
  | nil =>
    obtain ⟨hm, ht, htm⟩ : fr.mode = .run ∧ fr.todo = [] ∧ TmRel ι σ fx.n tm fr.tmps := by
      obtain ⟨cfn, ctmps, ctodo, cdefers, cmode, ckind, cround⟩ := fr
      have hb := F.body
      simp only at hb ⊢
      cases hb with
      | over _ _ hne => exact absurd rfl hne
      | plain ht hk => cases hk; exact ⟨rfl, rfl, ht⟩
    exact leave_sound R F htm hlo S hm (.inl ⟨rfl, ht⟩) h
  | cons x k =>
    cases x with
    | reg all rest => exact reg_sound ok _ R F hlo S h
    | dphase ops t0 prev rest => exact phase_sound ok R F hlo S h
    | dchain ops t0 prev rest => exact chain_sound ok R F hlo S h
    | it i =>
      cases i with
      | code c => exact code_sound ok R hlo S c F h
      | inRegion => cases h
      | inRangeFunc => cases h
      | call => cases h
      | extern => cases h
      | inBlock id =>
        obtain ⟨ci, ck, ht, hci, hk, hm, htm⟩ := plain_open F
        have hci' : ci = _ := hci
        subst hci'
        have h' : some _ = some s' := h
        cases h'
        exact go_sound R F hlo S hm htm ht hk (fun _ _ _ _ _ => by simp [stepG.exec])
      | inScope id =>
        obtain ⟨ci, ck, ht, hci, hk, hm, htm⟩ := plain_open F
        have hci' : ci = _ := hci
        subst hci'
        have h' : some _ = some s' := h
        cases h'
        exact go_sound R F hlo S hm htm ht hk (fun _ _ _ _ _ => by simp [stepG.exec])
      | inLoop body =>
        obtain ⟨ci, ck, ht, hci, hk, hm, htm⟩ := plain_open F
        have hci' : ci = _ := hci
        subst hci'
        exact (code_sound ok R hlo S body (F.to hm htm (.cons (itc body) (.cons (itl body) hk))) h).after (m_exec hm ht (fun _ _ _ _ _ => by simp [stepG.exec]))
      | endRangeFunc l =>
        obtain ⟨ci, ck, ht, ⟨l', hci, hι⟩, hk, hm, htm⟩ := plain_open F
        subst hci
        obtain ⟨st, pending, fn, n, tm', params, assign, body, defers, hg, b1, b2, hst, rfl⟩ := endRange_some h
        obtain ⟨c, h1, h2⟩ := R.blk l _ hg _ hι
        cases c <;> try (exact h2.elim)
        rename_i lp
        obtain ⟨_, e1, e2, e3, e4, e5, e6, e7, e8⟩ := h2
        have hgo := getObj_at (P := E.P) h1 (by intros; simp)
        have hso := fun o' => setObj_at (P := E.P) (o' := o') h1 (by intros; simp)
        have hnb : lp.state ≠ LoopState.busy := by rw [e1]; exact hst
        have R' := setObj_rel R hg hι b1 b2 (o' := .loop .exhausted pending fn n tm' params assign body defers) (c' := .loop { lp with state := .exhausted }) ⟨rfl, rfl, e2, e3, e4, e5, e6, e7, e8⟩ (by intros; simp)
        have hrun : (Instr.endLoop l').run E.P w = .ok pending { w with heap := w.heap.setIfInBounds l' (.loop { lp with state := .exhausted }) } := by
          simp [Instr.endLoop, Instr.getLoop, hgo, hso, hnb, e2]
        refine ⟨{ fr with todo := (pending.map Item.code).toList ++ ck }, ccs ++ cs0, _, mk_step ?_, ι, σ, lo, ccs, rfl, R', F.to hm htm ?_, hlo, S⟩
        · rw [stepG_run hm]
          obtain ⟨cfn, ctmps, ctodo, cdefers, cmode, ckind, cround⟩ := fr
          simp only at hm ht
          subst hm; subst ht
          simp [stepG.exec, Sem.runT_eq, hrun]
        · cases pending with
          | none => exact hk
          | some c => exact .cons (itc c) hk
      | beginRound =>
        obtain ⟨ci, ck, ht, hci, hk, hm, htm⟩ := plain_open F
        have hci' : ci = .beginRound := hci
        subst hci'
        have h' : beginRoundA E fx tm H acs k = some s' := h
        unfold beginRoundA at h'
        cases hro : fx.roundOf with
        | none => rw [hro] at h'; cases h'
        | some l =>
          rw [hro] at h'
          simp only at h'
          cases hcro : fr.roundOf with
          | none => have := F.rnd; rw [hro, hcro] at this; exact this.elim
          | some l' =>
            have hι : ι l = some (l', 0) := by have := F.rnd; rw [hro, hcro] at this; exact this
            cases hg : H.m.get l with
            | none => rw [hg] at h'; cases h'
            | some o =>
              rw [hg] at h'
              cases o <;> try (cases h'; done)
              rename_i st pending fn n tm' params assign body defers
              cases st <;> try (cases h'; done)
              simp only at h'
              cases hbb : (Nat.ble E.base l && Nat.ble l 100000) with
              | false => rw [hbb] at h'; cases h'
              | true =>
                rw [hbb] at h'
                simp only [goA, Option.some.injEq] at h'
                subst h'
                simp only [Bool.and_eq_true] at hbb
                have b1 := nble_le hbb.1
                have b2 := nble_le hbb.2
                obtain ⟨c, h1, h2⟩ := R.blk l _ hg _ hι
                cases c <;> try (exact h2.elim)
                rename_i lp
                obtain ⟨_, e1, e2, e3, e4, e5, e6, e7, e8⟩ := h2
                have hgo := getObj_at (P := E.P) h1 (by intros; simp)
                have hso := fun o' => setObj_at (P := E.P) (o' := o') h1 (by intros; simp)
                have R' := setObj_rel R hg hι b1 b2 (o' := .loop .busy pending fn n tm' params assign body defers) (c' := .loop { lp with state := .busy }) ⟨rfl, rfl, e2, e3, e4, e5, e6, e7, e8⟩ (by intros; simp)
                have hrun : (Instr.beginRound l').run E.P w = .ok () { w with heap := w.heap.setIfInBounds l' (.loop { lp with state := .busy }) } := by
                  simp [Instr.beginRound, Instr.getLoop, hgo, hso, e1]
                refine ⟨{ fr with todo := ck }, ccs ++ cs0, _, mk_step ?_, ι, σ, lo, ccs, rfl, R', F.to hm htm hk, hlo, S⟩
                rw [stepG_run hm]
                obtain ⟨cfn, ctmps, ctodo, cdefers, cmode, ckind, cround⟩ := fr
                simp only at hm ht hcro
                subst hm; subst ht; subst hcro
                simp [stepG.exec, stepG.apply, Sem.runT_eq, hrun, Frame.finish]

/-- One step of the executor. -/
theorem step_sound (ok : EnvOk E) {s s' : AM} {fr : Frame} {cs : List Frame} (h : step E s = some s') (M : MRel E w0 cs0 s fr cs w) : Snd E w0 cs0 s' fr cs w := by
  obtain ⟨ι, σ, lo, ccs, rfl, R, F, hlo, S⟩ := M
  obtain ⟨H, ⟨fx, tm, todo, mode⟩, acs⟩ := s
  cases mode with
  | run => exact todo_sound ok R hlo S F h
  | returning => exact unwind_sound ok R F hlo S (by intro e; cases e) h
  | panicking ch => exact unwind_sound ok R F hlo S (by intro e; cases e) h

theorem run_sound (ok : EnvOk E) : ∀ (n : Nat) {s s' : AM} {fr : Frame} {cs : List Frame} {w : World}, run E n s = some s' → MRel E w0 cs0 s fr cs w → Snd E w0 cs0 s' fr cs w
  | 0, s, s', fr, cs, w, h, M => by
    have h' : some s = some s' := h
    cases h'
    exact ⟨_, _, _, Steps.refl _ _, M⟩
  | n + 1, s, s', fr, cs, w, h, M => by
    have h' : runNext (step E s) (run E n) = some s' := h
    unfold runNext at h'
    cases hs : step E s with
    | none => rw [hs] at h'; cases h'
    | some s1 =>
      rw [hs] at h'
      obtain ⟨fr1, cs1, w1, h1, M1⟩ := step_sound ok hs M
      exact (run_sound ok n h' M1).after h1
end snd
end Go.Ex

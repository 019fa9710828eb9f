/- Steps side by side, the fourth part: regions that draw their order. -/
import Derived.Test.YtpnfkkoflppkhaaGreatDoorExSnd3
noncomputable section
namespace Go.Ex

section snd
variable {E : Env} {w0 w w' : World} {ι : Ren} {σ : Nat → Nat} {H : AH} {lo hi : Nat} {cs0 : List Frame}

theorem unlisted_all (n : Nat) : unlisted (Array.replicate n false) ≤ n := by
  unfold unlisted
  refine Nat.le_trans (List.length_filter_le _ _) ?_
  simp

/-- A region is begun. -/
theorem reg_start {n : Nat} {tm : T Value} {tmps : Array Value} (arr : Array Oper) (htm : TmRel ι σ n tm tmps) (hok : regOk n arr.toList = true) :
    RegRel ι σ lo hi n arr.toList tm (poisonAll tm arr.toList) none (chainOf arr.toList 0) arr (Array.replicate arr.size false) tmps := by
  have hlf : ∀ i : Nat, i < arr.size → (Array.replicate arr.size false)[i]? = some false := fun i h => by simp [h]
  have hlt : ∀ i : Nat, (Array.replicate arr.size false)[i]? ≠ some true := by
    intro i h
    by_cases hi : i < arr.size
    · rw [hlf i hi] at h; cases h
    · rw [Array.getElem?_eq_none (by simpa using hi)] at h; cases h
  have hp := htm.poison arr.toList
  have hpo : ∀ (m : Nat) (o : Oper) (d : Tmp), arr[m]? = some o → o.dst = some d → tget (poisonAll tm arr.toList) d = poison := fun m o d h1 h2 => by
    simp only [regOk, Bool.and_eq_true] at hok
    obtain ⟨⟨_, h4⟩, h5⟩ := hok
    have hm : o ∈ arr.toList := List.mem_of_getElem? (i := m) (by simpa using h1)
    have := List.all_eq_true.1 h4 o hm
    rw [h2] at this
    exact poisonAll_dst _ _ o d hm h2 (Nat.le_trans (Nat.le_of_lt (nble_le this)) (nble_le h5))
  refine ⟨rfl, hok, by simp, fun j o h => absurd h (hlt j), ⟨[], rfl, rfl, by simp, fun c hc => ?_⟩, htm.1, fun t _ => ⟨htm.2 t, hp.2 t⟩, fun t j _ _ => htm.2 t, fun t j _ h => absurd h (hlt j), fun j o d _ _ _ h => absurd h (hlt j),
    fun m o e d h1 h2 h3 h4 b off h5 => ?_, fun m m' o o' e e' d d' h1 h2 h3 h4 h5 h6 h7 h8 b off off' h9 h10 => ?_⟩
  · obtain ⟨i, o, h1, h2, _⟩ := (mem_chainOf _ 0 c).1 hc
    refine hlf c ?_
    have : i < arr.toList.length := (List.getElem?_eq_some_iff.1 h2).1
    simp at this
    omega
  · rw [hpo m o d h1 h3] at h5; cases h5
  · rw [hpo m o d h1 h3] at h9; cases h9

theorem plain_open {fx : Fx} {tm : T Value} {x : Item} {k : List AItem} {fr : Frame} (F : FrRel ι σ lo hi ⟨fx, tm, .it x :: k, .run⟩ fr) :
    ∃ ci ck, fr.todo = ci :: ck ∧ ItRel ι (.it x) ci ∧ L2 (ItRel ι) k ck ∧ fr.mode = .run ∧ TmRel ι σ fx.n tm fr.tmps := by
  obtain ⟨cfn, ctmps, ctodo, cdefers, cmode, ckind, cround⟩ := fr
  obtain ⟨h1, h2, h3, h4, h5⟩ := F
  simp only at h1 h2 h3 h4 h5 ⊢
  cases h5 with
  | over _ _ hne => exact absurd rfl hne
  | plain ht hk =>
    cases hk with
    | cons hi' hk => exact ⟨_, _, rfl, hi', hk, rfl, ht⟩

theorem FrRel.to {fx : Fx} {tm tm' : T Value} {todo k : List AItem} {ck : List Item} {fr : Frame} (F : FrRel ι σ lo hi ⟨fx, tm, todo, .run⟩ fr) (hm : fr.mode = .run) (ht : TmRel ι σ fx.n tm' fr.tmps) (hk : L2 (ItRel ι) k ck) :
    FrRel ι σ lo hi ⟨fx, tm', k, .run⟩ { fr with todo := ck } :=
  ⟨F.fn, F.kind, F.rnd, F.def_, by simp only; rw [hm]; exact .plain ht hk⟩

/-- A step that changes nothing but what is to be done. -/
theorem m_exec {P : Program} {fr : Frame} {cs : List Frame} {i : Item} {ck new : List Item} (hm : fr.mode = .run) (ht : fr.todo = i :: ck)
    (h : ∀ f t d kind r, (stepG.exec P true true { fn := f, tmps := t, todo := i :: ck, defers := d, mode := .run, kind, roundOf := r } cs none w).bare =
      .go { frame := { fn := f, tmps := t, todo := new, defers := d, mode := .run, kind, roundOf := r }, callers := cs, status := .running, dying := none } w) :
    Steps P (lone fr cs w) (lone { fr with todo := new } cs w) := by
  refine mk_step ?_
  rw [stepG_run hm]
  obtain ⟨fn, tmps, todo, defers, mode, kind, round⟩ := fr
  simp only at hm ht
  subst hm; subst ht
  exact h _ _ _ _ _

theorem m_cond {P : Program} {fr : Frame} {cs : List Frame} {c : Operand} {a b : Code} {ck : List Item} {x : Bool} (hm : fr.mode = .run) (ht : fr.todo = .code (.cond c a b) :: ck) (hc : fr.eval c = .bool x) :
    Steps P (lone fr cs w) (lone { fr with todo := .code (if x then a else b) :: ck } cs w) := by
  refine mk_step ?_
  rw [stepG_run hm]
  obtain ⟨fn, tmps, todo, defers, mode, kind, round⟩ := fr
  simp only at hm ht hc
  subst hm; subst ht
  simp [stepG.exec, hc]

theorem m_draw {P : Program} {fr : Frame} {cs : List Frame} {id : Nat} {arr : Array Oper} {ck : List Item} (hx : P.follows .mixedOrders = true) (hm : fr.mode = .run) (ht : fr.todo = .code (.region id arr true) :: ck) :
    ∃ t, Steps P (lone fr cs w) (lone { fr with todo := .inRegion arr (Region.linearise.go .any arr arr.size t (Array.replicate arr.size false) []) :: ck } cs w.drew) := by
  refine ⟨w.tape w.drawn (.order fr.fn id), mk_step ?_⟩
  rw [stepG_run hm]
  obtain ⟨fn, tmps, todo, defers, mode, kind, round⟩ := fr
  simp only at hm ht
  subst hm; subst ht
  simp [stepG.exec, choose, Sem.run, Question.forced, Question.cut, hx, Region.schedule, Region.linearise]

/-- A region whose order is drawn. -/
theorem draw_sound (ok : EnvOk E) {fx : Fx} {tm : T Value} {id : Nat} {arr : Array Oper} {k : List AItem} {fr : Frame} {acs : List AFr} {ccs : List Frame} {s' : AM} (R : HRel E w0 ι σ H w)
    (F : FrRel ι σ lo H.next ⟨fx, tm, .it (.code (.region id arr true)) :: k, .run⟩ fr) (hlo : lo ≤ H.next) (S : StRel ι σ lo acs ccs) (h : drawA fx tm H acs arr.toList k = some s') : Snd E w0 cs0 s' fr (ccs ++ cs0) w := by
  obtain ⟨ci, ck, ht, hci, hk, hm, htm⟩ := plain_open F
  have hci' : ci = .code (.region id arr true) := hci
  subst hci'
  unfold drawA at h
  cases hok : regOk fx.n arr.toList with
  | false => rw [hok] at h; cases h
  | true =>
    rw [hok] at h
    simp only [goA, Option.some.injEq] at h
    subst h
    obtain ⟨t, hs⟩ := m_draw (P := E.P) (w := w) (cs := ccs ++ cs0) ok.mixed hm ht
    refine ⟨_, _, _, hs, ι, σ, lo, ccs, rfl, drew_rel R, ⟨F.fn, F.kind, F.rnd, F.def_, ?_⟩, hlo, S⟩
    simp only
    rw [hm]
    exact .phase (reg_start arr htm hok) (unlisted_all _) hk

theorem phase_open {fx : Fx} {tm t0 : T Value} {ops : List Oper} {prev : Option Nat} {rest : List Nat} {k : List AItem} {fr : Frame} (F : FrRel ι σ lo hi ⟨fx, tm, .dphase ops t0 prev rest :: k, .run⟩ fr) :
    ∃ arr listed fuel t ck, fr.todo = .inRegion arr (Region.linearise.go .any arr fuel t listed []) :: ck ∧ RegRel ι σ lo hi fx.n ops t0 tm prev rest arr listed fr.tmps ∧ unlisted listed ≤ fuel ∧ L2 (ItRel ι) k ck ∧ fr.mode = .run := by
  obtain ⟨cfn, ctmps, ctodo, cdefers, cmode, ckind, cround⟩ := fr
  obtain ⟨h1, h2, h3, h4, h5⟩ := F
  simp only at h1 h2 h3 h4 h5 ⊢
  cases h5 with
  | over _ _ hne => exact absurd rfl hne
  | plain ht hk => cases hk with | cons hi' hk => exact hi'.elim
  | phase hr hf hk => exact ⟨_, _, _, _, _, rfl, hr, hf, hk, rfl⟩

/-- The movable operations between two of the chain. -/
theorem phase_sound (ok : EnvOk E) {fx : Fx} {tm t0 : T Value} {ops : List Oper} {prev : Option Nat} {rest : List Nat} {k : List AItem} {fr : Frame} {acs : List AFr} {ccs : List Frame} {s' : AM} (R : HRel E w0 ι σ H w)
    (F : FrRel ι σ lo H.next ⟨fx, tm, .dphase ops t0 prev rest :: k, .run⟩ fr) (hlo : lo ≤ H.next) (S : StRel ι σ lo acs ccs) (h : phaseA E H fx tm ops t0 prev rest k acs = some s') : Snd E w0 cs0 s' fr (ccs ++ cs0) w := by
  obtain ⟨arr, listed, fuel, t, ck, ht, RR, hf, hk, hm⟩ := phase_open F
  unfold phaseA at h
  cases h1 : pass1 E ops (active (masks ops) prev rest.head?) (movOf ops 0) tm H with
  | none => rw [h1] at h; cases h
  | some p =>
    obtain ⟨tm1, H1⟩ := p
    rw [h1] at h
    simp only at h
    cases h2 : pass2 E ops fx.n (masks ops) (active (masks ops) prev rest.head?) t0 H1 (movOf ops 0) tm1 with
    | none => rw [h2] at h; cases h
    | some tm2 =>
      rw [h2] at h
      simp only at h
      cases h3 : okAll E ops fx.n (masks ops) (active (masks ops) prev rest.head?) t0 tm2 H1 (movOf ops 0) with
      | false => rw [h3] at h; cases h
      | true =>
        rw [h3] at h
        simp only [Option.some.injEq] at h
        subst h
        obtain ⟨R1, RR1, hle⟩ := pass1_rel _ _ _ _ _ h1 R RR hlo
        have RR2 := pass2_rel (movOf ops 0) _ _ (fun c hc => by
          obtain ⟨i, o, e, q1, q2⟩ := movOf_mov ops 0 c hc
          have : c = i := by omega
          subst this
          exact ⟨o, q1, q2⟩) h2 RR1
        obtain ⟨ι', σ', w', tmps', todo', hs, he, R', hcase⟩ := movs_run ok h3 (unlisted listed) ι σ w fr listed fuel t (Nat.le_refl _) hf R1 hm RR2 ht (cs := ccs ++ cs0)
        have F1 : FrRel ι' σ' lo H1.next ⟨fx, tm2, .dchain ops t0 prev rest :: k, .run⟩ { fr with tmps := tmps', todo := todo' } := by
          refine ⟨F.fn, F.kind, F.rnd.mono he.1, F.def_.mono fun _ _ h => h.mono he.1, ?_⟩
          simp only
          rw [hm]
          rcases hcase with ⟨rfl, rfl, htm⟩ | ⟨i, rest', listed', fuel', t', rfl, hr, hf', rfl, RR3⟩
          · exact .last htm (hk.mono fun _ _ h => h.mono he.1)
          · exact .chain RR3 hr hf' (hk.mono fun _ _ h => h.mono he.1)
        exact ⟨_, _, _, hs, ι', σ', lo, ccs, rfl, R', F1, Nat.le_trans hlo hle, S.mono he⟩

theorem chain_open {fx : Fx} {tm t0 : T Value} {ops : List Oper} {prev : Option Nat} {i : Nat} {rest : List Nat} {k : List AItem} {fr : Frame} (F : FrRel ι σ lo hi ⟨fx, tm, .dchain ops t0 prev (i :: rest) :: k, .run⟩ fr) :
    ∃ arr listed l ck, fr.todo = .inRegion arr (i :: l) :: ck ∧ RegRel ι σ lo hi fx.n ops t0 tm prev (i :: rest) arr listed fr.tmps ∧ i ∈ Region.ready .any arr listed ∧ fr.mode = .run := by
  obtain ⟨cfn, ctmps, ctodo, cdefers, cmode, ckind, cround⟩ := fr
  obtain ⟨h1, h2, h3, h4, h5⟩ := F
  simp only at h1 h2 h3 h4 h5 ⊢
  cases h5 with
  | over _ _ hne => exact absurd rfl hne
  | plain ht hk => cases hk with | cons hi' hk => exact hi'.elim
  | chain hr hi' hf hk => exact ⟨_, _, _, _, rfl, hr, hi', rfl⟩

/-- An operation of the chain. -/
theorem chain_sound (ok : EnvOk E) {fx : Fx} {tm t0 : T Value} {ops : List Oper} {prev : Option Nat} {rest : List Nat} {k : List AItem} {fr : Frame} {acs : List AFr} {ccs : List Frame} {s' : AM} (R : HRel E w0 ι σ H w)
    (F : FrRel ι σ lo H.next ⟨fx, tm, .dchain ops t0 prev rest :: k, .run⟩ fr) (hlo : lo ≤ H.next) (S : StRel ι σ lo acs ccs) (h : chainA E fx tm H acs ops t0 prev rest k = some s') : Snd E w0 cs0 s' fr (ccs ++ cs0) w := by
  cases rest with
  | nil =>
    simp only [chainA, goA, Option.some.injEq] at h
    subst h
    obtain ⟨cfn, ctmps, ctodo, cdefers, cmode, ckind, cround⟩ := fr
    obtain ⟨h1, h2, h3, h4, h5⟩ := F
    simp only at h1 h2 h3 h4 h5
    cases h5 with
    | over _ _ hne => exact absurd rfl hne
    | plain ht hk => cases hk with | cons hi' hk => exact hi'.elim
    | last ht hk =>
      rename_i arr ck
      exact ⟨_, _, _, m_exec (new := ck) rfl rfl (fun _ _ _ _ _ => by simp [stepG.exec]), ι, σ, lo, ccs, rfl, R, ⟨h1, h2, h3, h4, .plain ht hk⟩, hlo, S⟩
  | cons i rest =>
    obtain ⟨arr, listed, l, ck, ht, RR, hr, hm⟩ := chain_open F
    obtain ⟨hi', _, _⟩ := ready_mem hr RR.lsz
    have ho : arr[i]? = some arr[i] := Array.getElem?_eq_getElem hi'
    have hoi : ops[i]? = some arr[i] := by rw [RR.get]; exact ho
    have hrho := rho_rel RR hr
    simp only [chainA, getAll_eq, hoi] at h
    cases hwr : wantR ops fx.n (rhoT ops (masks ops) i t0 tm) arr[i] with
    | none => rw [hwr] at h; cases h
    | some b =>
      rw [hwr] at h
      have hw := want_rel hrho RR.tsz RR.ops_ hwr
      cases b with
      | true =>
        simp only at h
        have hop := op_ok ok R hrho arr[i]
        rw [← evC_frame] at hop
        exact apply_sound ok R F hlo S (by rw [ht]; rfl) (m_oper hm ht ho hw (oper_hd F h)) hop h
      | false =>
        simp only at h
        exact ⟨_, _, _, m_unwanted hm ht ho hw, finish_sound R F hlo S undef_rel h⟩
end snd
end Go.Ex

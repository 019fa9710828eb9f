/- A call of one goroutine, as a traced run without a race. -/
import Derived.Test.YtpnfkkoflppkhaaGreatDoorExLaid
import Derived.Lone
import Derived.Conc.HoldsTime
noncomputable section
namespace Go.Ex
open Go.Conc

theorem runN_last {P : Program} : ∀ (n : Nat) {m m' : Machine}, runN P n m = .next m' → runN P (n + 1) m = Go.step P m'
  | 0, m, m', h => by
    simp only [runN, Stepped.next.injEq] at h
    subst h
    simp only [runN]
    cases Go.step P m <;> rfl
  | n + 1, m, m', h => by
    simp only [runN] at h
    rw [show runN P (n + 1 + 1) m = (match Go.step P m with | .next m => runN P (n + 1) m | e => e) from rfl]
    cases hs : Go.step P m with
    | next m1 => rw [hs] at h; exact runN_last n h
    | ended o w => rw [hs] at h; cases h

theorem good_of_calls {P : Program} {f : FuncId} {args : Array Value} {W : World} {Post : Value → World → Prop} (hi : P.inits.idxOf? f = none)
    (h : Calls P f args W fun e w' => ∃ v, e = .returned v ∧ Post v w') :
    ∃ M last o w' t', runNT P (M + 1) (solo (G (Frame.enter P f args .normal) []) W) #[] = (.ended o w', t') ∧ runN P M (solo (G (Frame.enter P f args .normal) []) W) = .next last ∧
      Go.step P last = .ended o w' ∧ Conc.Good P Post last o w' t' := by
  obtain ⟨e, w', fr, ⟨v, rfl, hp⟩, hc, hf, hl⟩ := h []
  obtain ⟨n, hn⟩ : Steps P (lone (Frame.enter P f args .normal) [] W) (lone fr [] w') := hc
  have hstep : Go.step P (lone fr [] w') = .ended (.done v) w' := step_leave_done hl (by rw [hf]; exact hi)
  have hlast := runN_last n hn
  rw [hstep] at hlast
  obtain ⟨_, hrace⟩ := no_race_of_lone (said := true) P n _ _ hn (by simp [lone]) rfl
  have hr : ∀ said, ¬ Race said (runNT P (n + 1) (lone (Frame.enter P f args .normal) [] W) #[]).2 := fun said => (no_race_of_lone (said := said) P n _ _ hn (by simp [lone]) rfl).2
  have e1 : runNT P n (lone (Frame.enter P f args .normal) [] W) #[] = (.next (lone fr [] w'), (runNT P n (lone (Frame.enter P f args .normal) [] W) #[]).2) := Prod.ext (by rw [runNT_fst, hn]) rfl
  have hall : Trace.allBy (runNT P (n + 1) (lone (Frame.enter P f args .normal) [] W) #[]).2 0 := by
    rw [runNT_succ P n _ _ _ _ e1]
    exact Trace.allBy_append (runNT_lone P n _ _ _ _ e1 (by simp [lone]) (Trace.allBy_empty 0)) (Trace.allBy_of_forall (stepT_lone P _ true (by simp [lone]) rfl))
  refine ⟨n, lone fr [] w', .done v, w', (runNT P (n + 1) (lone (Frame.enter P f args .normal) [] W) #[]).2, Prod.ext (by rw [runNT_fst]; exact hlast) rfl, hn, hstep, v, rfl, hp, hr, ?_, ?_, ?_⟩
  · intro i g hg hne hcnt
    obtain ⟨x, hx, _⟩ := hcnt
    have := hall i x hx
    rw [hg] at this
    exact absurd (Option.some.inj this) hne
  · refine ⟨fun g hg => ?_, rfl⟩
    simp [lone] at hg
  · intro i g hg hne
    exfalso
    simp only [lone] at hg
    cases i with
    | zero => exact hne rfl
    | succ i => simp at hg
end Go.Ex

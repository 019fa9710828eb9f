/- Steps side by side, the first part: values that come back, panics, new frames. -/
import Derived.Test.YtpnfkkoflppkhaaGreatDoorExReg3
noncomputable section
namespace Go.Ex

section snd
variable {E : Env} {w0 w : World} {ι : Ren} {σ : Nat → Nat} {H : AH} {lo hi : Nat}

theorem get_put_any {α : Type} (v : Option α) : ∀ (f : Nat) (t : T α) (k : Nat), (T.put v f t k).get k = v ∨ (T.put v f t k).get k = t.get k
  | 0, t, k => .inr rfl
  | f + 1, .e, 0 => .inl rfl
  | f + 1, .n _ _ _, 0 => .inl rfl
  | f + 1, .e, j + 1 => by
    rw [T.put_e_succ]; split
    · rename_i hm; rw [T.get_succ, if_pos hm]; exact get_put_any v f .e _
    · rename_i hm; rw [T.get_succ, if_neg hm]; exact get_put_any v f .e _
  | f + 1, .n l u r, j + 1 => by
    rw [T.put_n_succ]; split
    · rename_i hm; rw [T.get_succ, if_pos hm, T.get_succ, if_pos hm]; exact get_put_any v f l _
    · rename_i hm; rw [T.get_succ, if_neg hm, T.get_succ, if_neg hm]; exact get_put_any v f r _

theorem poisonAll_get : ∀ (os : List Oper) (tm : T Value) (t : Nat), tget (poisonAll tm os) t = poison ∨ tget (poisonAll tm os) t = tget tm t
  | [], _, _ => .inr rfl
  | o :: os, tm, t => by
    simp only [poisonAll]
    rcases poisonAll_get os _ t with h | h
    · exact .inl h
    · rw [h]
      cases o.dst with
      | none => exact .inr rfl
      | some d =>
        by_cases e : t = d
        · subst e
          unfold tget T.set
          rcases get_put_any (some poison) 24 tm t with h | h
          · left; show (match (T.put (some poison) 24 tm t).get t with | some v => v | none => undef) = _; rw [h]
          · right; show (match (T.put (some poison) 24 tm t).get t with | some v => v | none => undef) = _; rw [h]; rfl
        · right; unfold tget; rw [T.get_set_other _ _ _ _ e]

theorem poisonAll_dst : ∀ (os : List Oper) (tm : T Value) (o : Oper) (d : Tmp), o ∈ os → o.dst = some d → d ≤ 100000 → tget (poisonAll tm os) d = poison
  | [], _, _, _, h, _, _ => by simp at h
  | o :: os, tm, o', d, h, hd, hl => by
    simp only [poisonAll]
    simp only [List.mem_cons] at h
    rcases h with rfl | h
    · rw [hd]
      rcases poisonAll_get os (tm.set d poison) d with h | h
      · exact h
      · rw [h]; unfold tget; rw [T.get_set_same _ _ _ hl]
    · exact poisonAll_dst os _ o' d h hd hl

theorem TmRel.poison {n : Nat} {tm : T Value} {tmps : Array Value} (h : TmRel ι σ n tm tmps) (os : List Oper) : TmRel ι σ n (poisonAll tm os) tmps :=
  ⟨h.1, fun t => by rcases poisonAll_get os tm t with e | e <;> rw [e]; exact .poison _; exact h.2 t⟩

theorem TmRel.put {n : Nat} {tm tm' : T Value} {tmps : Array Value} (h : TmRel ι σ n tm tmps) {d : Option Tmp} {v v' : Value} (hp : putT n tm d v = some tm') (hv : VRel ι σ v v') :
    TmRel ι σ n tm' (putC tmps d v') := by
  cases d with
  | none => simp [putT] at hp; subst hp; exact h
  | some d =>
    simp only [putT] at hp
    cases hb : (Nat.blt d n && Nat.ble n 100000) with
    | false => rw [hb] at hp; cases hp
    | true =>
      rw [hb] at hp
      simp only [Option.some.injEq] at hp
      subst hp
      simp only [Bool.and_eq_true] at hb
      have h1 : d < n := nble_le hb.1
      have h2 := nble_le hb.2
      have h3 : d ≤ 100000 := Nat.le_trans (Nat.le_of_lt h1) h2
      refine ⟨by simpa [putC] using h.1, fun t => ?_⟩
      by_cases e : t = d
      · subst e
        unfold tget
        rw [T.get_set_same _ _ _ h3]
        simp [putC, h.1, h1]; exact hv
      · have := h.2 t
        unfold tget at this ⊢
        rw [T.get_set_other _ _ _ _ e]
        simpa [putC, Array.getElem?_setIfInBounds_ne (Ne.symm e)] using this

theorem RegRel.tm_poison {n : Nat} {ops : List Oper} {t0 tm : T Value} {prev : Option Nat} {rest : List Nat} {arr : Array Oper} {listed : Array Bool} {tmps : Array Value}
    (RR : RegRel ι σ lo hi n ops t0 tm prev rest arr listed tmps) : TmRel ι σ n (poisonAll tm ops) tmps := by
  obtain ⟨_, _, _, hdn, hn⟩ := RR.parts
  refine ⟨RR.tsz, fun t => ?_⟩
  cases hw : writer ops t with
  | none =>
    rcases poisonAll_get ops tm t with e | e <;> rw [e]
    · exact .poison _
    · exact (RR.out t hw).2
  | some j =>
    obtain ⟨j', o', h1, h2, h3⟩ := writerGo_some ops t 0 j hw
    rw [poisonAll_dst ops tm o' t (List.mem_of_getElem? h2) h3 (Nat.le_trans (Nat.le_of_lt (hdn o' (List.mem_of_getElem? h2) t h3)) hn)]
    exact .poison _

theorem chainOf_nodup : ∀ (os : List Oper) (k : Nat), (chainOf os k).Nodup
  | [], k => by simp [chainOf]
  | o :: os, k => by
    simp only [chainOf]
    have ih := chainOf_nodup os (k + 1)
    split
    · exact ih
    · rw [List.nodup_cons]
      refine ⟨fun h => ?_, ih⟩
      obtain ⟨i, _, h1, _⟩ := (mem_chainOf os (k + 1) k).1 h
      omega

/-- A value comes back. -/
theorem finish_rel {a a' : AFr} {c : Frame} (F : FrRel ι σ lo hi a c) {v v' : Value} (h : finishA a v = some a') (hv : VRel ι σ v v') : FrRel ι σ lo hi a' (c.finish v') ∧ a'.fx = a.fx := by
  obtain ⟨fx, tm, todo, mode⟩ := a
  obtain ⟨cfn, ctmps, ctodo, cdefers, cmode, ckind, cround⟩ := c
  obtain ⟨h1, h2, h3, h4, h5⟩ := F
  simp only at h1 h2 h3 h4 h5
  unfold finishA at h
  simp only at h
  split at h <;> try (cases h; done)
  · -- in the order of the text
    rename_i ops o rest k
    cases hp : putT fx.n tm o.dst v with
    | none => rw [hp] at h; cases h
    | some tm' =>
      rw [hp] at h
      simp only [Option.some.injEq] at h
      subst h
      cases h5 with
      | over _ _ hne => exact absurd rfl hne
      | plain ht hk =>
        cases hk with
        | cons hi' hk =>
          rename_i ci ck
          obtain ⟨arr, done, rfl, ha, ho⟩ := hi'
          have hod : arr[done.length]? = some o := by
            have : arr.toList[done.length]? = some o := by rw [ha, ho]; simp
            simpa using this
          have hfin : Frame.finish { fn := cfn, tmps := ctmps, todo := .inRegion arr (List.range' done.length (o :: rest).length) :: ck, defers := cdefers, mode := .run, kind := ckind, roundOf := cround } v' =
              { fn := cfn, tmps := (putC ctmps o.dst v'), todo := .inRegion arr (List.range' (done.length + 1) rest.length) :: ck, defers := cdefers, mode := .run, kind := ckind, roundOf := cround } := by
            rw [finish_region (arr := arr) (i := done.length) (rest := List.range' (done.length + 1) rest.length) (k := ck) (by simp [List.range'_succ]) hod]
          rw [hfin]
          refine ⟨⟨h1, h2, h3, h4, .plain (ht.put hp hv) (.cons ⟨arr, done ++ [o], by simp, ha, by rw [ho]; simp⟩ hk)⟩, rfl⟩
  · -- in a drawn order
    rename_i ops t0 prev i rest k
    cases hp : putT fx.n tm (dstOf ops i) v with
    | none => rw [hp] at h; cases h
    | some tm' =>
      rw [hp] at h
      simp only [Option.some.injEq] at h
      subst h
      cases h5 with
      | plain ht hk => cases hk with | cons hi' _ => exact hi'.elim
      | over _ _ hne => exact absurd rfl hne
      | chain RR hr hf hk =>
        rename_i arr listed fuel t ck
        obtain ⟨hi', hlf, hfree⟩ := ready_mem hr RR.lsz
        have ho : arr[i]? = some arr[i] := Array.getElem?_eq_getElem hi'
        have hoi : ops[i]? = some arr[i] := by rw [RR.get]; exact ho
        have hdo : dstOf ops i = arr[i].dst := by unfold dstOf; rw [getAll_eq, hoi]
        rw [hdo] at hp
        obtain ⟨_, hdist, _, hdn, hn⟩ := RR.parts
        obtain ⟨done, hc1, hc2, hc3, hc4⟩ := RR.chain
        have hil : i < listed.size := by rw [RR.lsz]; exact hi'
        rw [finish_region (arr := arr) (i := i) rfl ho]
        have hnm : isMov arr[i] = false := by
          have : i ∈ chainOf ops 0 := by rw [hc1]; simp
          obtain ⟨i', o', q1, q2, q3⟩ := (mem_chainOf ops 0 i).1 this
          have : i' = i := by omega
          subst this
          rw [hoi] at q2; cases q2; exact q3
        have hnd : ∀ c ∈ chainOf ops 0, ∀ (l1 l2 : List Nat), True := fun _ _ _ _ => trivial
        have hget : ∀ t, arr[i].dst ≠ some t → tget tm' t = tget tm t := fun t ht => by
          cases hd : arr[i].dst with
          | none => rw [hd] at hp; simp [putT] at hp; rw [hp]
          | some d =>
            rw [hd] at hp
            simp only [putT] at hp
            split at hp <;> try (cases hp; done)
            simp at hp; subst hp
            have : t ≠ d := fun e => ht (by rw [hd, e])
            unfold tget; rw [T.get_set_other _ _ _ _ this]
        have hself : ∀ d, arr[i].dst = some d → tget tm' d = v := fun d hd => by
          rw [hd] at hp
          simp only [putT] at hp
          split at hp <;> try (cases hp; done)
          rename_i hb
          simp only [Bool.and_eq_true] at hb
          have q1 : d < fx.n := nble_le hb.1
          have q2 := nble_le hb.2
          simp at hp; subst hp
          unfold tget; rw [T.get_set_same _ _ _ (Nat.le_trans (Nat.le_of_lt q1) q2)]
        have hwr : ∀ t j, writer ops t = some j → arr[i].dst = some t → i = j := fun t j hw hd => writer_unique hdist hw hoi hd
        have hother : ∀ (m : Nat) (o' : Oper) (d' : Tmp), m ≠ i → arr[m]? = some o' → o'.dst = some d' → arr[i].dst ≠ some d' := fun m o' d' hne q1 q2 q3 =>
          hne (distinct_spec _ hdist m i d' (by rw [List.getElem?_map, RR.get, q1]; simp [q2]) (by rw [List.getElem?_map, hoi]; simp [q3]))
        have hal : ∀ (m : Nat) (o' : Oper) (e' : TypeId), arr[m]? = some o' → isAlloc o' = some e' → m ≠ i := fun m o' e' q1 q2 e => by
          subst e
          rw [ho] at q1; cases q1
          have := alloc_not_defer q2
          simp [isMov, this] at hnm
        have RR' : RegRel ι σ lo hi fx.n ops t0 tm' (some i) rest arr (listed.setIfInBounds i true) (putC ctmps arr[i].dst v') := by
          refine ⟨RR.ops_, RR.ok, by simpa using RR.lsz, fun j o' hj ho' e he hb => ?_, ⟨done ++ [i], by rw [hc1]; simp, by simp, fun c hc => ?_, fun c hc => ?_⟩, by rw [tmps_size]; exact RR.tsz,
            fun t hw => ?_, fun t j hw hj => ?_, fun t j hw hj => ?_, fun j o' d' q1 q2 q3 q4 => ?_, fun m o' e' d' q1 q2 q3 q4 b off q5 => ?_,
            fun m1 m2 o1 o2 e1 e2 d1 d2 q1 q2 q3 q4 q5 q6 q7 q8 b off off' q9 q10 => ?_⟩
          · rw [listed_set hil] at hj ⊢
            by_cases ej : e.on = i
            · exact .inl ⟨ej, rfl⟩
            · refine .inr ⟨ej, ?_⟩
              rcases hj with ⟨rfl, _⟩ | ⟨_, hj⟩
              · exact hfree o' ho' e he hb
              · exact RR.down j o' hj ho' e he hb
          · rw [listed_set hil]
            by_cases ec : c = i
            · exact .inl ⟨ec, rfl⟩
            · simp only [List.mem_append, List.mem_singleton] at hc
              rcases hc with hc | hc
              · exact .inr ⟨ec, hc3 c hc⟩
              · exact absurd hc ec
          · rw [listed_set hil]
            refine .inr ⟨fun ec => ?_, hc4 c (by simp [hc])⟩
            subst ec
            have hnod := chainOf_nodup ops 0
            rw [hc1] at hnod
            have := (List.nodup_append.1 hnod).2.1
            rw [List.nodup_cons] at this
            exact this.1 hc
          · have hd : arr[i].dst ≠ some t := fun e => writerGo_none ops t 0 hw i _ hoi e
            rw [tmps_set hd, hget t hd]; exact RR.out t hw
          · rw [listed_set hil] at hj
            rcases hj with ⟨_, q⟩ | ⟨hne, hj⟩
            · cases q
            · have hd : arr[i].dst ≠ some t := fun e => hne (hwr t j hw e).symm
              rw [tmps_set hd]; exact RR.old t j hw hj
          · rw [listed_set hil] at hj
            rcases hj with ⟨rfl, _⟩ | ⟨hne, hj⟩
            · obtain ⟨j', o', q1, q2, q3⟩ := writerGo_some ops t 0 j hw
              have : j = j' := by omega
              subst this
              rw [hoi] at q2; cases q2
              rw [hself t q3]
              have hlt : t < ctmps.size := by rw [RR.tsz]; exact hdn _ (List.mem_of_getElem? hoi) t q3
              simp only [q3]
              simpa [putC, hlt] using hv
            · have hd : arr[i].dst ≠ some t := fun e => hne (hwr t j hw e).symm
              rw [tmps_set hd, hget t hd]; exact RR.new t j hw hj
          · rw [listed_set hil] at q4
            rcases q4 with ⟨rfl, _⟩ | ⟨hne, q4⟩
            · rw [ho] at q1; cases q1; rw [hnm] at q2; cases q2
            · rw [hget d' (hother j o' d' hne q1 q3)]; exact RR.np j o' d' q1 q2 q3 q4
          · rw [listed_set hil] at q4
            rcases q4 with ⟨_, q⟩ | ⟨hne, q4⟩
            · cases q
            · rw [hget d' (hother m o' d' hne q1 q3)] at q5
              exact RR.pend m o' e' d' q1 q2 q3 q4 b off q5
          · rw [listed_set hil] at q7 q8
            rcases q7 with ⟨_, q⟩ | ⟨hne1, q7⟩
            · cases q
            · rcases q8 with ⟨_, q⟩ | ⟨hne2, q8⟩
              · cases q
              · rw [hget d1 (hother m1 o1 d1 hne1 q1 q3)] at q9
                rw [hget d2 (hother m2 o2 d2 hne2 q4 q6)] at q10
                exact RR.inj m1 m2 o1 o2 e1 e2 d1 d2 q1 q2 q3 q4 q5 q6 q7 q8 b off off' q9 q10
        exact ⟨⟨h1, h2, h3, h4, .phase RR' hf hk⟩, rfl⟩
  · -- a range over a function
    rename_i l k
    simp only [Option.some.injEq] at h
    subst h
    cases h5 with
    | over _ _ hne => exact absurd rfl hne
    | plain ht hk =>
      cases hk with
      | cons hi' hk =>
        obtain ⟨l', rfl, hl⟩ := hi'
        exact ⟨⟨h1, h2, h3, h4, .plain ht (.cons ⟨l', rfl, hl⟩ hk)⟩, rfl⟩

/-- A panic comes to a frame. -/
theorem raise_rel {a : AFr} {c : Frame} (F : FrRel ι σ lo hi a c) {ch ch' : List PanicEntry} (hc : L2 (PanRel ι σ) ch ch') : FrRel ι σ lo hi (raiseA a ch) (c.raise ch') := by
  obtain ⟨fx, tm, todo, mode⟩ := a
  obtain ⟨cfn, ctmps, ctodo, cdefers, cmode, ckind, cround⟩ := c
  obtain ⟨h1, h2, h3, h4, h5⟩ := F
  simp only at h1 h2 h3 h4 h5
  have hplain : ∀ (todo : List AItem) (tm : T Value), TmRel ι σ fx.n tm ctmps → TmRel ι σ fx.n (match todo with
      | .dchain ops _ _ _ :: _ => poisonAll tm ops
      | .dphase ops _ _ _ :: _ => poisonAll tm ops
      | _ => tm) ctmps := fun todo tm ht => by
    split
    · exact ht.poison _
    · exact ht.poison _
    · exact ht
  cases h5 with
  | plain ht hk => exact ⟨h1, h2, h3, h4, .over (hplain _ _ ht) hc (by intro e; cases e)⟩
  | phase RR _ _ => exact ⟨h1, h2, h3, h4, .over RR.tm_poison hc (by intro e; cases e)⟩
  | chain RR _ _ _ => exact ⟨h1, h2, h3, h4, .over RR.tm_poison hc (by intro e; cases e)⟩
  | last ht _ => exact ⟨h1, h2, h3, h4, .over (ht.poison _) hc (by intro e; cases e)⟩
  | over ht hm hne =>
    cases mode with
    | run => exact absurd rfl hne
    | returning =>
      cases cmode <;> simp only [ModeRel] at hm
      exact ⟨h1, h2, h3, h4, .over (hplain _ _ ht) hc (by intro e; cases e)⟩
    | panicking old =>
      cases cmode <;> simp only [ModeRel] at hm
      exact ⟨h1, h2, h3, h4, .over (hplain _ _ ht) (hc.append hm) (by intro e; cases e)⟩

theorem argsT_get : ∀ (args : List Value) (tm : T Value) (i k : Nat), i + args.length ≤ 100000 → (argsT args tm i).get k = if i ≤ k ∧ k < i + args.length then args[k - i]? else tm.get k
  | [], tm, i, k, _ => by
    have : ¬ (i ≤ k ∧ k < i + ([] : List Value).length) := by simp
    rw [if_neg this]; rfl
  | v :: vs, tm, i, k, h => by
    simp only [argsT, List.length_cons] at h ⊢
    rw [argsT_get vs _ (i + 1) k (by omega)]
    by_cases hk : i + 1 ≤ k ∧ k < i + 1 + vs.length
    · rw [if_pos hk, if_pos (by omega), show k - i = (k - (i + 1)) + 1 by omega]; simp
    · rw [if_neg hk]
      by_cases e : k = i
      · subst e; rw [if_pos (by omega), T.get_set_same _ _ _ (by omega)]; simp
      · rw [if_neg (by omega), T.get_set_other _ _ _ _ e]

/-- A function is entered. -/
theorem enter_rel (ok : EnvOk E) {f : FuncId} {args : List Value} {args' : Array Value} {kind : CallKind} {a : AFr} (h : enterA E f args kind = some a) (ha : VsRel ι σ args args'.toList) (b : Nat) :
    FrRel ι σ b b a (Frame.enter E.P f args' kind) := by
  unfold enterA at h
  cases hf : E.fn.get f with
  | none => rw [hf] at h; cases h
  | some fn =>
    rw [hf] at h
    simp only at h
    have hP := ok.fn f fn hf
    cases hb : fn.body with
    | none => rw [hb] at h; cases h
    | some c =>
      rw [hb] at h
      simp only at h
      cases hc : (Nat.ble args.length fn.ntmps && Nat.ble fn.ntmps 100000) with
      | false => rw [hc] at h; cases h
      | true =>
        rw [hc] at h
        simp only [Option.some.injEq] at h
        subst h
        simp only [Bool.and_eq_true] at hc
        have h1 := nble_le hc.1
        have h2 := nble_le hc.2
        have hl := ha.l2.length
        have hl' : args'.size = args.length := by rw [hl]; simp
        have he : Frame.enter E.P f args' kind = { fn := f, tmps := args' ++ Array.replicate (fn.ntmps - args'.size) undef, todo := [.code c], defers := [], mode := .run, kind, roundOf := none } := by
          simp [Frame.enter, hP, hb]
        rw [he]
        refine ⟨rfl, rfl, trivial, .nil, .plain ⟨by simp; omega, fun t => ?_⟩ (.cons rfl .nil)⟩
        unfold tget
        rw [argsT_get args .e 0 t (by omega)]
        by_cases ht : t < args.length
        · rw [if_pos (by omega)]
          have hx : args[t]? = some args[t] := List.getElem?_eq_getElem ht
          obtain ⟨y, hy, hr⟩ := ha.l2.get hx
          have hy' : args'[t]? = some y := by simpa using hy
          have : (args' ++ Array.replicate (fn.ntmps - args'.size) undef)[t]? = some y := by rw [Array.getElem?_append_left (by omega)]; exact hy'
          simp only [Nat.sub_zero, hx]
          rw [Array.getD_eq_getD_getElem?, this]; exact hr
        · rw [if_neg (by omega)]
          show VRel ι σ undef _
          have : (args' ++ Array.replicate (fn.ntmps - args'.size) undef).getD t undef = undef := by
            rw [Array.getD_eq_getD_getElem?]
            by_cases h3 : t < (args' ++ Array.replicate (fn.ntmps - args'.size) undef).size
            · rw [Array.getElem?_append_right (by omega)]
              simp at h3
              simp only [Array.getElem?_replicate]
              split <;> rfl
            · rw [Array.getElem?_eq_none (by omega)]; rfl
          rw [this]; exact undef_rel
end snd
end Go.Ex

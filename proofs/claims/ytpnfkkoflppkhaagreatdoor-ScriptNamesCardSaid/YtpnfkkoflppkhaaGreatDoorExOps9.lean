/- Operations side by side, the ninth part: calls; all operations. -/
import Derived.Test.YtpnfkkoflppkhaaGreatDoorExOps8
noncomputable section
namespace Go.Ex

section ops
variable {E : Env} {w0 w : World} {ι : Ren} {σ : Nat → Nat} {H : AH} {r : Nat → Value} {tmps : Array Value}

theorem callF_ok (ok : EnvOk E) (R : HRel E w0 ι σ H w) (f : FuncId) {args : List Value} {args' : Array Value} (ha : VsRel ι σ args args'.toList) :
    ResOk E w0 ι σ H w (callF E H f args) ((callFunc f args').run E.P w) := by
  unfold callF
  cases hf : E.fn.get f with
  | none => trivial
  | some fn =>
    have hP := ok.fn f fn hf
    have hn : fn.name ≠ "runtime.NumGoroutine" := by simpa using ok.name f fn hf
    simp only
    cases hb : fn.body with
    | some c => exact ⟨rfl, args', by simp [callFunc, hP, hn, hb], ha⟩
    | none =>
      simp only
      cases hp : args.all plainV with
      | false => trivial
      | true =>
        simp only
        have := plains_eq hp ha
        have e1 : args.toArray = args' := by rw [← this]
        cases he : E.ext.get f with
        | none => trivial
        | some e =>
          obtain ⟨h1, h2⟩ := ok.ext f e he fn hP
          simp only
          rw [e1]
          exact ResOk.valP R fun x hx => by simp [callFunc, hP, hn, hb, h1, h2, hx]

theorem method_run (ok : EnvOk E) {t : TypeId} {v v' : Value} {name : String} {f : FuncId} {rv : Value} (h : methodV E t v name = some (f, rv)) (_ : VRel ι σ v v') (n : Nat) :
    rv = v ∧ (method (n + 1) t v' name).run E.P w = .ok (f, v') w := by
  unfold methodV at h
  cases hi : E.inf.get t with
  | none => simp [hi] at h
  | some info =>
    simp only [hi] at h
    cases hm : info.methods.find? (·.name == name) with
    | none => simp [hm] at h
    | some m =>
      simp only [hm] at h
      split at h <;> try (cases h; done)
      · rename_i g hpe hfu
        split at h <;> try (cases h; done)
        rename_i e hd
        simp only [Option.some.injEq, Prod.mk.injEq] at h
        obtain ⟨rfl, rfl⟩ := h
        have hpe' : m.path = #[] := by simpa using hpe
        refine ⟨rfl, ?_⟩
        simp [method, run_inf ok hi, hm, hpe', follow, hfu, receiverAt, run_und ok hd, Place.get]
      · rename_i g hpe hfu
        split at h <;> try (cases h; done)
        rename_i d hnp hd
        simp only [Option.some.injEq, Prod.mk.injEq] at h
        obtain ⟨rfl, rfl⟩ := h
        have hpe' : m.path = #[] := by simpa using hpe
        refine ⟨rfl, ?_⟩
        have hu := run_und (w := w) ok hd
        cases d <;> first
          | exact (hnp _ hd).elim
          | exact (hnp _ rfl).elim
          | simp [method, run_inf ok hi, hm, hpe', follow, hfu, receiverAt, hu, Place.get]

theorem callMethod_ok (ok : EnvOk E) (R : HRel E w0 ι σ H w) {t : TypeId} {v v' : Value} {name : String} (hv : VRel ι σ v v') {rest : List Value} {args' : Array Value} (ha : VsRel ι σ rest args'.toList) :
    ResOk E w0 ι σ H w (match methodV E t v name with | some (f, r) => callF E H f (r :: rest) | none => .fail) ((callMethod (.iface t v') name args').run E.P w) := by
  cases hm : methodV E t v name with
  | none => trivial
  | some p =>
    obtain ⟨f, rv⟩ := p
    have hd : E.P.types.size + Made.depth = (E.P.types.size + 99) + 1 := rfl
    obtain ⟨rfl, hrun⟩ := method_run (w := w) ok hm hv (E.P.types.size + 99)
    have := callF_ok ok R f (args := rv :: rest) (args' := #[v'] ++ args') (by simpa using VsRel.cons hv ha)
    simp only
    have e : (callMethod (.iface t v') name args').run E.P w = (callFunc f (#[v'] ++ args')).run E.P w := by
      simp only [callMethod, Sem.run_bind, run_program, Result.andThen_ok, hd, hrun]
    rw [e]; exact this

theorem fold_tm {n : Nat} : ∀ (ps : List Tmp) (args args' : List Value) (tm : T Value) (tmps : Array Value), VsRel ι σ args args' → TmRel ι σ n tm tmps →
    ps.all (fun t => Nat.blt t n && Nat.ble n 100000) = true →
    TmRel ι σ n ((ps.zip args).foldl (fun tm (p : Tmp × Value) => tm.set p.1 p.2) tm) ((ps.zip args').foldl (fun (tmps : Array Value) (p : Tmp × Value) => tmps.setIfInBounds p.1 p.2) tmps)
  | [], _, _, _, _, _, h, _ => h
  | p :: ps, _, _, _, _, .nil, h, _ => h
  | p :: ps, a :: as, a' :: as', tm, tmps, .cons ha ht, h, hp => by
    simp only [List.all_cons, Bool.and_eq_true] at hp
    simp only [List.zip_cons_cons, List.foldl_cons]
    refine fold_tm ps as as' _ _ ht ⟨by simpa using h.1, fun t => ?_⟩ hp.2
    have h1 : p < n := nble_le hp.1.1
    have h2 := nble_le hp.1.2
    have h3 : p ≤ 100000 := Nat.le_trans (Nat.le_of_lt h1) h2
    by_cases e : t = p
    · subst e
      unfold tget
      rw [T.get_set_same _ _ _ h3]
      simp [h.1, h1]; exact ha
    · have := h.2 t
      unfold tget at this ⊢
      rw [T.get_set_other _ _ _ _ e]
      simpa [Array.getElem?_setIfInBounds_ne (Ne.symm e)] using this

theorem yield_ok (R : HRel E w0 ι σ H w) {l l' : Nat} (hl : ι l = some (l', 0)) {args : List Value} {args' : Array Value} (ha : VsRel ι σ args args'.toList) :
    ResOk E w0 ι σ H w (yieldF H l args) ((Instr.yield l' args').run E.P w) := by
  unfold yieldF
  cases hg : H.m.get l with
  | none => trivial
  | some o =>
    cases o <;> simp only <;> try trivial
    rename_i st pending fn n tm params assign body defers
    obtain ⟨c, h1, h2⟩ := R.blk l _ hg _ hl
    cases c <;> simp only [ORel] at h2
    rename_i lp
    obtain ⟨_, _, _, e3, e4, e5, e6, e7, _⟩ := h2
    have hgo := getObj_at (P := E.P) h1 (by intros; simp)
    cases hb : (Nat.beq args.length params.size && params.toList.all (fun t => Nat.blt t n && Nat.ble n 100000)) with
    | false => trivial
    | true =>
      simp only [Bool.and_eq_true] at hb
      have hlen := nbeq_eq hb.1
      have hal := ha.l2.length
      have hsz : args'.size = params.size := by rw [← hlen, hal]; simp
      refine ⟨rfl, l', (params.zip args').foldl (fun tmps (p : Tmp × Value) => tmps.setIfInBounds p.1 p.2) lp.tmps, ?_, hl, ?_⟩
      · simp [Instr.yield, Instr.getLoop, hgo, e5, hsz, e3, e6, e7]
      · have := fold_tm params.toList args args'.toList tm lp.tmps ha e4 hb.2
        rw [← Array.foldl_toList, Array.toList_zip]
        exact this

theorem invoke_ok (ok : EnvOk E) (R : HRel E w0 ι σ H w) {fn fn' : Fn} {captured args : List Value} {captured' args' : Array Value} (hf : FnRel ι fn fn') (hc : VsRel ι σ captured captured'.toList)
    (ha : VsRel ι σ args args'.toList) : ResOk E w0 ι σ H w (invokeF E H fn captured args) ((invoke (.fn fn' captured') args').run E.P w) := by
  unfold invokeF
  cases fn with
  | func f =>
    simp [FnRel] at hf; subst hf
    have := callF_ok ok R f (args := args ++ captured) (args' := args' ++ captured') (by simpa using VsRel.of_l2 (ha.l2.append hc.l2))
    simpa [invoke] using this
  | method name =>
    simp [FnRel] at hf; subst hf
    simp only
    split
    rotate_left
    · trivial
    rename_i t v rest
    cases ha' : args'.toList with
    | nil => rw [ha'] at ha; cases ha
    | cons x xs =>
      rw [ha'] at ha
      cases ha with
      | cons hx ht =>
        cases hx
        rename_i v' hv
        have h0 : args'[0]? = some (.iface t v') := by
          have : args'.toList[0]? = some (.iface t v') := by rw [ha']; rfl
          simpa using this
        have h1 : (args'.extract 1 args'.size).toList = xs := by
          simp [Array.toList_extract, List.extract_eq_take_drop, ha']
          rw [List.take_of_length_le]
          have : args'.size = xs.length + 1 := by have := congrArg List.length ha'; simpa using this
          omega
        have := callMethod_ok ok R (t := t) (name := name) hv (args' := args'.extract 1 args'.size) (by rw [h1]; exact ht)
        have e : (invoke (.fn (.method name) captured') args').run E.P w = (callMethod (.iface t v') name (args'.extract 1 args'.size)).run E.P w := by simp [invoke, h0]
        rw [e]; exact this
  | methodOf t name =>
    simp [FnRel] at hf; subst hf
    simp only
    split
    rotate_left
    · trivial
    rename_i x rest
    cases ha' : args'.toList with
    | nil => rw [ha'] at ha; cases ha
    | cons x' xs =>
      rw [ha'] at ha
      cases ha with
      | cons hx ht =>
        have h0 : args'[0]? = some x' := by
          have : args'.toList[0]? = some x' := by rw [ha']; rfl
          simpa using this
        have h1 : (args'.extract 1 args'.size).toList = xs := by
          simp [Array.toList_extract, List.extract_eq_take_drop, ha']
          rw [List.take_of_length_le]
          have : args'.size = xs.length + 1 := by have := congrArg List.length ha'; simpa using this
          omega
        cases hd : E.und.get t with
        | none => trivial
        | some d =>
          have hu := run_und (w := w) ok hd
          have main : (∀ m, d ≠ .interface m) → ResOk E w0 ι σ H w (match isPoison x with | true => .fail | false => match methodV E t x name with | some (f, r) => callF E H f (r :: rest) | none => .fail)
              ((invoke (.fn (.methodOf t name) captured') args').run E.P w) := by
            intro hnot
            cases isPoison x with
            | true => trivial
            | false =>
              have := callMethod_ok ok R (t := t) (name := name) hx (args' := args'.extract 1 args'.size) (by rw [h1]; exact ht)
              have e : (invoke (.fn (.methodOf t name) captured') args').run E.P w = (callMethod (.iface t x') name (args'.extract 1 args'.size)).run E.P w := by
                cases d <;> first | (exfalso; exact hnot _ rfl) | simp [invoke, h0, hu]
              rw [e]; exact this
          cases d <;> first | trivial | exact main (by intro m h; cases h)
  | via t p f b => trivial
  | yield l =>
    obtain ⟨l', rfl, hl⟩ := hf
    have := yield_ok R hl ha
    simpa [invoke] using this

theorem callV_ok (ok : EnvOk E) (R : HRel E w0 ι σ H w) {f f' : Value} (hf : VRel ι σ f f') {args : List Value} {args' : Array Value} (ha : VsRel ι σ args args'.toList) :
    ResOk E w0 ι σ H w (callV E H f args) ((do let d ← Deferred.ofValue f' args'; invoke d.target d.args : Sem Next).run E.P w) := by
  unfold callV
  cases hf <;> simp only <;> try trivial
  rename_i fn fn' a b a' b' h h1 h2
  have := invoke_ok ok R h h2 (args := a.toList ++ args) (args' := a' ++ args') (by simpa using VsRel.of_l2 (h1.l2.append ha.l2))
  simpa [Deferred.ofValue] using this

/-- The target of a call on both sides. -/
theorem target_ok (R : HRel E w0 ι σ H w) (hr : ∀ t, VRel ι σ (r t) (tmps.getD t undef)) (c : Call) (t : TypeId) {d : Deferred} (h : targetF E r c t = some d) :
    ∃ d', (resolve (evC tmps) c t).run E.P w = .ok d' w ∧ DRel ι σ d d' := by
  have hargs := map_ev R hr c.args
  unfold targetF at h
  unfold resolve
  cases hc : c.callee with
  | builtin b =>
    simp only [hc, Option.some.injEq] at h ⊢
    subst h
    exact ⟨_, rfl, ⟨rfl, rfl, rfl, rfl⟩, hargs⟩
  | invoke recv name =>
    simp only [hc, Option.some.injEq] at h ⊢
    subst h
    exact ⟨_, rfl, ⟨rfl, .nil⟩, by simpa using VsRel.cons (ev_rel R hr recv) hargs⟩
  | value f =>
    simp only [hc] at h ⊢
    have hf := ev_rel R hr f
    split at h <;> try (cases h; done)
    rename_i fn first captured he
    rw [he] at hf
    simp only [Option.some.injEq] at h
    subst h
    generalize evC tmps f = f' at hf
    cases hf with
    | func h h1 h2 => exact ⟨_, rfl, ⟨h, h2⟩, by simpa using VsRel.of_l2 (h1.l2.append hargs.l2)⟩

theorem minmax_ok (R : HRel E w0 ι σ H w) {args : List Value} {args' : Array Value} (ha : VsRel ι σ args args'.toList) (f : Array Value → Sem Value) (s : Array Value → Sem Next)
    (hs : ∀ a, s a = (do pure (.value (← f a)))) :
    ResOk E w0 ι σ H w (match args.all plainV with | true => valP (pureRun E.P (f args.toArray)) H | false => .fail) ((s args').run E.P w) := by
  cases hp : args.all plainV with
  | false => trivial
  | true =>
    have := plains_eq hp ha
    have e1 : args.toArray = args' := by rw [← this]
    simp only
    rw [e1, hs]
    exact ResOk.valP R fun x hx => by simp [hx]

theorem builtin_ok (ok : EnvOk E) (R : HRel E w0 ι σ H w) (b : Builtin) (ts : Array TypeId) (t : TypeId) (cs : Array Bool) {args : List Value} {args' : Array Value} (ha : VsRel ι σ args args'.toList) :
    ResOk E w0 ι σ H w (builtinF E H b ts t args) ((builtin b ts t cs args').run E.P w) := by
  unfold builtinF
  split
  · split
    rotate_left
    · trivial
    rename_i x rest
    cases ha' : args'.toList with
    | nil => rw [ha'] at ha; cases ha
    | cons x' xs => rw [ha'] at ha; cases ha with | cons hx ht => exact len_ok ok R ts t hx args' ha'
  · split
    rotate_left
    · trivial
    rename_i s x rest
    cases ha' : args'.toList with
    | nil => rw [ha'] at ha; cases ha
    | cons s' xs =>
      rw [ha'] at ha
      cases ha with
      | cons hs ht =>
        cases xs with
        | nil => cases ht
        | cons x' xs => cases ht with | cons hx ht => exact append_ok ok R ts t hs hx args' ha'
  · exact minmax_ok R ha (Builtin.max_ ts t) _ fun _ => rfl
  · exact minmax_ok R ha (Builtin.min_ ts t) _ fun _ => rfl
  · split
    rotate_left
    · trivial
    rename_i t0 v rest
    cases ha' : args'.toList with
    | nil => rw [ha'] at ha; cases ha
    | cons x' xs =>
      rw [ha'] at ha
      cases ha with
      | cons hx ht =>
        cases hx
        rename_i v' hv
        have h0 : args'.getD 0 .nilIface = .iface t0 v' := by
          have : args'.toList[0]? = some (.iface t0 v') := by rw [ha']; rfl
          have : args'[0]? = some (.iface t0 v') := by simpa using this
          simp [this]
        refine ⟨rfl, .iface t0 v', ?_, .iface t0 hv⟩
        simp only [builtin, Sem.run_bind, h0, Instr.panic, run_goPanic, Result.andThen_halt]
  · exact ⟨rfl, rfl⟩
  · trivial

theorem runT_ok (ok : EnvOk E) (R : HRel E w0 ι σ H w) {d d' : Deferred} (hd : DRel ι σ d d') : ResOk E w0 ι σ H w (runT E H d.target d.args.toList) ((invoke d'.target d'.args).run E.P w) := by
  obtain ⟨ta, aa⟩ := d
  obtain ⟨tc, ac⟩ := d'
  obtain ⟨h1, h2⟩ := hd
  simp only at h1 h2 ⊢
  unfold runT
  cases ta <;> cases tc <;> simp only [TgRel] at h1 <;> try trivial
  · exact invoke_ok ok R h1.1 h1.2 h2
  · obtain ⟨rfl, rfl, rfl, rfl⟩ := h1
    exact builtin_ok ok R _ _ _ _ h2

theorem ORelV.map (R : HRel E w0 ι σ H w) (hr : ∀ t, VRel ι σ (r t) (tmps.getD t undef)) (x : Option Operand) : ORelV ι σ (x.map (ev E · r)) (x.map (evC tmps)) := by
  cases x with
  | none => exact .inl ⟨rfl, rfl⟩
  | some x => exact .inr ⟨_, _, rfl, rfl, ev_rel R hr x⟩

theorem doneH_ok {s : Sem Unit} {v : Option AH} (h : ∀ H', v = some H' → ∃ w', s.run E.P w = .ok () w' ∧ HRel E w0 ι σ H' w' ∧ H.next ≤ H'.next) :
    ResOk E w0 ι σ H w (doneH v) ((do s; pure .skip : Sem Next).run E.P w) := by
  cases v with
  | none => trivial
  | some H' =>
    obtain ⟨w', h1, h2, h3⟩ := h H' rfl
    exact ⟨ι, σ, w', by simp [h1], Ext.refl _ _ _, h2, h3⟩

theorem storeAt_next {t : TypeId} {a v : Value} {H' : AH} (h : storeAt E H t a v = some H') : H'.next = H.next := by
  unfold storeAt at h
  split at h <;> try (cases h; done)
  split at h <;> try (cases h; done)
  simp only at h
  split at h <;> try (cases h; done)
  split at h <;> try (cases h; done)
  unfold putCells at h
  split at h <;> try (cases h; done)
  split at h <;> try (cases h; done)
  split at h <;> try (cases h; done)
  cases h; rfl

/-- Every operation. -/
theorem op_ok (ok : EnvOk E) (R : HRel E w0 ι σ H w) (hr : ∀ t, VRel ι σ (r t) (tmps.getD t undef)) (o : Oper) :
    ResOk E w0 ι σ H w ((opF E o).f r H) ((execOp (evC tmps) o).run E.P w) := by
  have hx := fun x => ev_rel R hr x
  obtain ⟨dst, op, type, pos, after, guard⟩ := o
  cases op <;> simp only [opF] <;> try trivial
  case move x => exact ResOk.val_same R (by simp [execOp]) (hx x)
  case assign x => exact ResOk.val_same R (by simp [execOp]) (hx x)
  case pick c a b => exact pick_ok R (hx c) (hx a) (hx b)
  case alloc e => exact alloc_ok ok R e
  case box e x => exact box_ok R e (hx x)
  case build t ps => exact build_ok ok R hr t ps
  case buildSlice t n ps => exact buildSlice_ok ok R hr t n ps
  case insert t m k x => exact mapPut_ok ok R t (hx m) (hx k) (hx x)
  case load t a =>
    refine ResOk.val_opt R fun y hy => ?_
    obtain ⟨v', h1, h2⟩ := loadAt_rel ok R hy (hx a)
    exact ⟨v', by simp [execOp, h1], h2⟩
  case store t a x =>
    refine doneH_ok fun H' hy => ?_
    obtain ⟨w', h1, h2⟩ := storeAt_rel ok R hy (hx a) (hx x)
    exact ⟨w', h1, h2, by rw [storeAt_next hy]; exact Nat.le_refl _⟩
  case nilCheck x => exact nilCheck_ok R (hx x) _ _ x rfl rfl
  case binOp op t x y yt => exact bin_ok ok R op t x y (hx x) (hx y)
  case unOp op t x => exact un_ok R op (hx x)
  case convert s d x => exact conv_ok ok R s d (hx x)
  case makeInterface t x => exact iface_ok ok R t (hx x)
  case makeFunc fn a b => exact func_ok R hr fn a b
  case makeMap t s => exact map_ok R t s _
  case makeSlice t l c => exact makeSlice_ok ok R t (hx l) (hx c)
  case slice t x lo hi mx => exact slice_ok ok R t (hx x) (ORelV.map R hr lo) (ORelV.map R hr hi) (ORelV.map R hr mx)
  case fieldAddr s x f => exact field_ok ok R s f (hx x)
  case field t x f => exact fieldV_ok ok R t f (hx x)
  case indexAddr t x i => exact indexA_ok ok R t (hx x) (hx i)
  case index t x i => exact indexV_ok ok R t (hx x) (hx i)
  case lookup t x k c => exact lookup_ok ok R t c (hx x) (hx k)
  case mapUpdate t m k x => exact mapPut_ok ok R t (hx m) (hx k) (hx x)
  case typeAssert x xt a c => exact assert_ok ok R xt a c (hx x)
  case extract t i => exact extract_ok R i (hx t)
  case call c =>
    unfold aCall
    cases hd : targetF E r c type with
    | none => trivial
    | some d =>
      obtain ⟨d', h1, h2⟩ := target_ok (H := H) R hr c type hd
      have := runT_ok ok R h2
      have e : (execOp (evC tmps) ⟨dst, .call c, type, pos, after, guard⟩).run E.P w = (invoke d'.target d'.args).run E.P w := by simp [execOp, h1]
      rw [e]; exact this
  case defer c =>
    unfold aDefer
    cases hd : targetF E r c type with
    | none => trivial
    | some d =>
      obtain ⟨d', h1, h2⟩ := target_ok (H := H) R hr c type hd
      exact ⟨rfl, d', by simp [execOp, h1], h2⟩
  case panic x =>
    have hv := hx x
    show ResOk E w0 ι σ H w (aPanic (ev E x r) H) _
    generalize ev E x r = a at hv
    unfold aPanic
    split
    · generalize hg : evC tmps x = x' at hv
      cases hv with
      | iface _ h => exact ⟨rfl, _, by simp [execOp, hg, Instr.panic], .iface _ h⟩
    · trivial
end ops
end Go.Ex

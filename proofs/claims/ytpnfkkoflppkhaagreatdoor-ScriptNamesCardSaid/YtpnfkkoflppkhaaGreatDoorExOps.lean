/- Operations side by side, the first part: reads, numbers, allocations. -/
import Derived.Test.YtpnfkkoflppkhaaGreatDoorExHeap2
noncomputable section
namespace Go.Ex

/-- What an operation comes to, on both sides. -/
def ResOk (E : Env) (w0 : World) (ι : Ren) (σ : Nat → Nat) (H : AH) (w : World) (r : ARes) (s : Result Next) : Prop :=
  match r with
  | .fail => True
  | .val v H' => ∃ ι' σ' v' w', s = .ok (.value v') w' ∧ Ext H.next ι σ ι' σ' ∧ HRel E w0 ι' σ' H' w' ∧ VRel ι' σ' v v' ∧ H.next ≤ H'.next
  | .skip H' => ∃ ι' σ' w', s = .ok .skip w' ∧ Ext H.next ι σ ι' σ' ∧ HRel E w0 ι' σ' H' w' ∧ H.next ≤ H'.next
  | .enter f args H' => H' = H ∧ ∃ args', s = .ok (.enter f args') w ∧ VsRel ι σ args args'.toList
  | .round l f n tm assign body H' => H' = H ∧ ∃ l' tmps, s = .ok (.round l' f tmps assign body) w ∧ ι l = some (l', 0) ∧ TmRel ι σ n tm tmps
  | .defer d H' => H' = H ∧ ∃ d', s = .ok (.defer d') w ∧ DRel ι σ d d'
  | .recover H' => H' = H ∧ s = .ok .recover w
  | .panic v H' => H' = H ∧ ∃ v', s = .halt (.panic v') w ∧ VRel ι σ v v'

theorem pureRun_run {α : Type} {P : Program} : ∀ {s : Sem α} {a : α}, pureRun P s = some a → ∀ w, s.run P w = .ok a w
  | .pure b, a, h, w => by simp [pureRun] at h; subst h; rfl
  | .mark m k, a, h, w => by simp only [pureRun] at h; show k.run P w = _; exact pureRun_run h w
  | .program k, a, h, w => by simp only [pureRun] at h; show (k P).run P w = _; exact pureRun_run h w
  | .load .., _, h, _ => by simp [pureRun] at h
  | .store .., _, h, _ => by simp [pureRun] at h
  | .new .., _, h, _ => by simp [pureRun] at h
  | .shape .., _, h, _ => by simp [pureRun] at h
  | .freeze .., _, h, _ => by simp [pureRun] at h
  | .frozen .., _, h, _ => by simp [pureRun] at h
  | .getObj .., _, h, _ => by simp [pureRun] at h
  | .setObj .., _, h, _ => by simp [pureRun] at h
  | .choose .., _, h, _ => by simp [pureRun] at h
  | .sys .., _, h, _ => by simp [pureRun] at h
  | .halt .., _, h, _ => by simp [pureRun] at h

/-- The reads of the machine's frames. -/
def evC (tmps : Array Value) : Operand → Value
  | .tmp t => tmps.getD t undef
  | .const v => v
  | .global g => .pointer (some ⟨g, 0, none⟩)
  | .func f => .func (.func f) #[] #[]

theorem evC_frame (fr : Frame) : fr.eval = evC fr.tmps := by
  funext x; cases x <;> rfl

section ops
variable {E : Env} {w0 w : World} {ι : Ren} {σ : Nat → Nat} {H : AH} {r : Nat → Value} {tmps : Array Value}

theorem ev_rel (R : HRel E w0 ι σ H w) (hr : ∀ t, VRel ι σ (r t) (tmps.getD t undef)) (x : Operand) : VRel ι σ (ev E x r) (evC tmps x) := by
  cases x with
  | tmp t => exact hr t
  | const v => exact konst_rel v
  | global g =>
    unfold ev
    simp only [opdF]
    cases hb : Nat.ble E.gl g with
    | true => exact .poison _
    | false =>
      have hlt : g < E.gl := by
        rcases Nat.lt_or_ge g E.gl with h | h
        · exact h
        · rw [Nat.ble_eq_true_of_le h] at hb; cases hb
      have := VRel.ptr (σ := σ) (o := 0) (R.glob g hlt)
      exact this
  | func f => exact .func rfl .nil .nil

/-- A value, nothing else turned. -/
theorem ResOk.val_same (R : HRel E w0 ι σ H w) {v v' : Value} {s : Result Next} (hs : s = .ok (.value v') w) (hv : VRel ι σ v v') : ResOk E w0 ι σ H w (.val v H) s :=
  ⟨ι, σ, v', w, hs, Ext.refl _ _ _, R, hv, Nat.le_refl _⟩

theorem ResOk.val_opt (R : HRel E w0 ι σ H w) {v : Option Value} {s : Result Next} (h : ∀ x, v = some x → ∃ v', s = .ok (.value v') w ∧ VRel ι σ x v') : ResOk E w0 ι σ H w (val v H) s := by
  cases v with
  | none => trivial
  | some x => obtain ⟨v', h1, h2⟩ := h x rfl; exact ResOk.val_same R h1 h2

theorem ResOk.ptrH {e : TypeId} {cs : List Value} {s : Result Next} {ds : Array Value} (R : HRel E w0 ι σ H w) (hd : VsRel ι σ cs (ds.toList.take cs.length))
    (hs : s = .ok (.value (.pointer (some ⟨w.heap.size, 0, none⟩))) (w.alloc (.cells ds e))) : ResOk E w0 ι σ H w (ptrH (allocCells H e cs)) s := by
  cases ha : allocCells H e cs with
  | none => trivial
  | some p =>
    obtain ⟨a, H'⟩ := p
    obtain ⟨ι', σ', h1, rfl, h3, h4, h5, _⟩ := allocCells_rel R ha hd
    exact ⟨ι', σ', _, _, hs, h1, h4, by simpa using VRel.ptr (σ := σ') (o := 0) h3, Nat.le_of_lt h5⟩

theorem take_self {α : Type} {xs ys : List α} (h : xs.length = ys.length) : ys.take xs.length = ys := by rw [h]; exact List.take_length

theorem alloc_ok (ok : EnvOk E) (R : HRel E w0 ι σ H w) (e : TypeId) : ResOk E w0 ι σ H w (aAlloc E H e)
    ((do pure (.value (← Instr.alloc e true (.tuple #[]))) : Sem Next).run E.P w) := by
  unfold aAlloc
  cases hz : zeroP E e with
  | none => trivial
  | some z =>
    obtain ⟨h1, h2⟩ := zeroP_some hz
    have hrel := cells_rel (ι := ι) (σ := σ) (plain1_refl h2) (by rintro k b rfl; simp [plain1, plainV] at h2)
    refine ResOk.ptrH R (ds := z.cells) (by rw [take_self rfl]; exact hrel) ?_
    simp [Instr.alloc, run_zer ok h1, newVar, newRow]

theorem isPoison_false {x : Value} (h : isPoison x = false) : ∀ k b, x ≠ .float k b := by
  rintro k b rfl; simp [isPoison] at h

theorem box_ok (R : HRel E w0 ι σ H w) (e : TypeId) {x x' : Value} (hx : VRel ι σ x x') : ResOk E w0 ι σ H w (aBox H e x)
    ((do pure (.value (← Instr.box e x')) : Sem Next).run E.P w) := by
  unfold aBox
  cases hp : isPoison x with
  | true => trivial
  | false =>
    have hrel := cells_rel hx (isPoison_false hp)
    refine ResOk.ptrH R (ds := x'.cells) (by rw [take_self hrel.l2.length]; exact hrel) ?_
    simp [Instr.box, newVar, newRow]

theorem nilCheck_ok (R : HRel E w0 ι σ H w) {x x' : Value} (hx : VRel ι σ x x') (o : Oper) (ρ : Operand → Value) (y : Operand) (ho : o.op = .nilCheck y) (hy : ρ y = x') :
    ResOk E w0 ι σ H w (aNilCheck x H) ((execOp ρ o).run E.P w) := by
  cases hx <;> simp only [aNilCheck] <;> try trivial
  case func f f' a b a' b' hf h1 h2 =>
    cases f <;> simp only <;> try trivial
    simp [FnRel] at hf
    subst hf
    exact ResOk.val_same R (by simp [execOp, ho, hy]) (.func rfl h1 h2)
  case string s => exact ResOk.val_same R (by simp [execOp, ho, hy]) (.string s)
  case ptr h => exact ResOk.val_same R (by simp [execOp, ho, hy]) (.ptr h)
  case nilsl => exact ResOk.val_same R (by simp [execOp, ho, hy]) .nilsl
  case empty a c => exact ResOk.val_same R (by simp [execOp, ho, hy]) (.empty a c)
  case slice h hc => exact ResOk.val_same R (by simp [execOp, ho, hy]) (.slice h hc)
  case sliceU h hl hc => exact ResOk.val_same R (by simp [execOp, ho, hy]) (.sliceU h hl hc)
  case iface t v v' h => exact ResOk.val_same R (by simp [execOp, ho, hy]) (.iface t h)

theorem ResOk.valP (R : HRel E w0 ι σ H w) {t : Sem Value} {s : Result Next} (h : ∀ x, t.run E.P w = .ok x w → s = .ok (.value x) w) :
    ResOk E w0 ι σ H w (valP (pureRun E.P t) H) s := by
  cases hp : pureRun E.P t with
  | none => trivial
  | some x =>
    simp only [Ex.valP]
    cases h1 : plain1 x with
    | false => trivial
    | true => exact ResOk.val_same R (h x (pureRun_run hp w)) (plain1_refl h1)

theorem un_ok (R : HRel E w0 ι σ H w) (op : UnOp) {x x' : Value} (hx : VRel ι σ x x') :
    ResOk E w0 ι σ H w (aUn E op x H) ((do pure (.value (← Op.unary op x')) : Sem Next).run E.P w) := by
  unfold aUn
  cases h1 : plain1 x with
  | false => trivial
  | true =>
    rw [plain1_eq h1 hx]
    exact ResOk.valP R fun y hy => by simp [hy]

theorem eqNil_ok (ok : EnvOk E) {t : TypeId} {d : TypeDesc} (hd : E.und.get t = some d) {a b a' b' : Value} (h : eqNilV d a b = true) (ha : VRel ι σ a a') (hb : VRel ι σ b b') :
    (Op.equal t a' b').run E.P w = .ok false w := by
  unfold eqNilV at h
  unfold Op.equal Op.maxDepth Op.equalIn
  split at h <;> (try cases h) <;> cases ha <;> cases hb <;> simp [run_und ok hd]

theorem binNil_ok (ok : EnvOk E) (R : HRel E w0 ι σ H w) (op : BinOp) (t : TypeId) (x y : Operand) {a b a' b' : Value} (ha : VRel ι σ a a') (hb : VRel ι σ b b') :
    ResOk E w0 ι σ H w (binNil E op t a b H) ((do pure (.value (← (do eqGuard op t x y a' b'; Go.binOp op t a' b'))) : Sem Next).run E.P w) := by
  unfold binNil
  cases hd : E.und.get t with
  | none => trivial
  | some d =>
    simp only
    cases he : eqNilV d a b with
    | false => trivial
    | true =>
      have hq := eqNil_ok (w := w) ok hd he ha hb
      have hg : ∀ op, (eqGuard op t x y a' b').run E.P w = .ok () w := by
        intro op
        unfold eqNilV at he
        split at he <;> (try cases he) <;> cases ha <;> cases hb <;> (unfold eqGuard; simp)
      have hbin : ∀ op, op = .eql ∨ op = .neq → (Go.binOp op t a' b').run E.P w = .ok (.bool (op matches .neq)) w := by
        intro op hop
        unfold eqNilV at he
        rcases hop with rfl | rfl <;> split at he <;> (try cases he) <;> cases ha <;> cases hb <;> simp [Go.binOp, hq]
      cases op <;> simp only <;> try trivial
      · exact ResOk.val_same R (by simp [hg, hbin .eql (.inl rfl)]) (.bool false)
      · exact ResOk.val_same R (by simp [hg, hbin .neq (.inr rfl)]) (.bool true)

theorem binSlow_ok (ok : EnvOk E) (R : HRel E w0 ι σ H w) (op : BinOp) (t : TypeId) (x y : Operand) {a b a' b' : Value} (ha : VRel ι σ a a') (hb : VRel ι σ b b') :
    ResOk E w0 ι σ H w (binSlow E op t x y a b H) ((do pure (.value (← (do eqGuard op t x y a' b'; Go.binOp op t a' b'))) : Sem Next).run E.P w) := by
  unfold binSlow
  cases h1 : (plain1 a && plain1 b) with
  | false => exact binNil_ok ok R op t x y ha hb
  | true =>
    simp only [Bool.and_eq_true] at h1
    rw [plain1_eq h1.1 ha, plain1_eq h1.2 hb]
    exact ResOk.valP R fun y hy => by
      rw [Sem.run_bind, hy]; rfl

theorem sameK_eq {k l : IntKind} (h : sameK k l = true) : l = k := by
  cases k <;> cases l <;> first | rfl | cases h

theorem binInts_ok (ok : EnvOk E) (R : HRel E w0 ι σ H w) (op : BinOp) (t : TypeId) (x y : Operand) (k l : IntKind) (a b : Int) :
    ResOk E w0 ι σ H w (binInts E op t x y k l a b H) ((do pure (.value (← (do eqGuard op t x y (.int k a) (.int l b); Go.binOp op t (.int k a) (.int l b)))) : Sem Next).run E.P w) := by
  unfold binInts
  cases hk : sameK k l with
  | false => exact binSlow_ok ok R op t x y (.int k a) (.int l b)
  | true =>
    have := sameK_eq hk
    subst this
    have hg : ∀ op, (eqGuard op t x y (.int l a) (.int l b)).run E.P w = .ok () w := by
      intro op; unfold eqGuard; cases op <;> simp
    simp only
    cases hv : intV op l a b with
    | none => exact binSlow_ok ok R op t x y (.int l a) (.int l b)
    | some v =>
      have hb : (Go.binOp op t (.int l a) (.int l b)).run E.P w = .ok v w := by
        cases op <;> simp only [intV, intCmpV, Option.some.injEq] at hv <;> first | (cases hv; done) | (subst hv; simp [Go.binOp, Op.intArith, Op.intCmp])
      refine ResOk.val_same R (v' := v) (by simp [hg, hb]) ?_
      cases op <;> simp only [intV, intCmpV, Option.some.injEq] at hv <;> first | (cases hv; done) | (subst hv; first | exact .int _ _ | exact .bool _)

theorem bin_ok (ok : EnvOk E) (R : HRel E w0 ι σ H w) (op : BinOp) (t : TypeId) (x y : Operand) {a b a' b' : Value} (ha : VRel ι σ a a') (hb : VRel ι σ b b') :
    ResOk E w0 ι σ H w (aBin E op t x y a b H) ((do pure (.value (← (do eqGuard op t x y a' b'; Go.binOp op t a' b'))) : Sem Next).run E.P w) := by
  unfold aBin
  split
  · split
    · cases ha; cases hb; exact binInts_ok ok R op t x y _ _ _ _
    · exact binSlow_ok ok R op t x y ha hb
  · exact binSlow_ok ok R op t x y ha hb
end ops
end Go.Ex

/- Heaps side by side: stores; objects; appends. -/
import Derived.Test.YtpnfkkoflppkhaaGreatDoorExHeap
noncomputable section
namespace Go.Ex

section heap
variable {E : Env} {w0 w w' : World} {ι : Ren} {σ : Nat → Nat} {H H' : AH}

theorem HRel.congr (R : HRel E w0 ι σ H w) (hn : H'.next = H.next) (hg : ∀ b, H'.m.get b = H.m.get b) : HRel E w0 ι σ H' w :=
  ⟨fun b o h => R.blk b o (hg b ▸ h), fun b b' o o' h h' => R.inj b b' o o' (hg b ▸ h) (hg b' ▸ h'), R.rng, R.siz, fun b h => R.dom b (hn ▸ h),
   fun b o h => hn ▸ R.live b o (hg b ▸ h), R.glob, R.new, R.old, R.size, R.tape, R.os, R.out⟩

theorem update_rel (R : HRel E w0 ι σ H w) {b cb co : Nat} {o o' : AObj} {c' : Obj} (hl : H.m.get b = some o) (hι : ι b = some (cb, co)) (hb : E.base ≤ b)
    (hn : H'.next = H.next) (hoth : ∀ b', b' ≠ b → H'.m.get b' = H.m.get b') (hg : H'.m.get b = some o')
    (hsz : w'.heap.size = w.heap.size) (ho : ∀ i, i ≠ cb → w'.heap[i]? = w.heap[i]?) (hc : w'.heap[cb]? = some c') (hr : ORel ι σ co o' c')
    (hs : ∀ cs e fr, c' = .cells cs e fr → cs.size = σ cb) (ht : w'.tape = w.tape) (hos : w'.os = w.os) (hout : w'.output = w.output) : HRel E w0 ι σ H' w' := by
  have hlive : ∀ b' x, H'.m.get b' = some x → ∃ y, H.m.get b' = some y := fun b' x h => by
    by_cases e : b' = b
    · exact ⟨o, e ▸ hl⟩
    · exact ⟨x, hoth b' e ▸ h⟩
  constructor
  · intro b' x hx y hy
    by_cases e : b' = b
    · subst e
      rw [hι] at hy; cases hy
      rw [hg] at hx; cases hx
      exact ⟨c', hc, hr⟩
    · have hx' := hoth b' e ▸ hx
      obtain ⟨c, h1, h2⟩ := R.blk b' x hx' y hy
      have : y.1 ≠ cb := fun ee => e (R.inj b' b x o hx' hl y (cb, co) hy hι ee)
      exact ⟨c, by rw [ho _ this]; exact h1, h2⟩
  · intro b1 b2 o1 o2 h1 h2
    obtain ⟨p1, q1⟩ := hlive b1 o1 h1
    obtain ⟨p2, q2⟩ := hlive b2 o2 h2
    exact R.inj b1 b2 p1 p2 q1 q2
  · intro b' x hx; rw [hsz]; exact R.rng b' x hx
  · intro b' x hx cs e fr h
    by_cases ee : x.1 = cb
    · rw [ee, hc] at h
      cases h
      rw [ee]; exact hs cs e fr rfl
    · rw [ho _ ee] at h; exact R.siz b' x hx cs e fr h
  · intro b' h; exact R.dom b' (hn ▸ h)
  · intro b' x hx; rw [hn]
    obtain ⟨y, hy⟩ := hlive b' x hx
    exact R.live b' y hy
  · exact R.glob
  · exact R.new
  · intro i hi
    have := R.new b _ hb hι
    simp only at this
    rw [ho i (by omega)]; exact R.old i hi
  · rw [hsz]; exact R.size
  · rw [ht]; exact R.tape
  · rw [hos]; exact R.os
  · rw [hout]; exact R.out

theorem heap_setCell {cb i : Nat} {v : Value} {c : Array Value} {e : TypeId} {fr : Nat × Nat} (h : w.heap[cb]? = some (.cells c e fr)) :
    (w.setCell ⟨cb, i, none⟩ v).heap[cb]? = some (.cells (c.setIfInBounds i v) e fr) := by
  simp only [World.setCell, Array.getElem?_modify, ↓reduceIte, h, Option.map_some, Option.isSome_none, Bool.false_eq_true]
theorem heap_setCell_other {a : Addr} {v : Value} {i : Nat} (h : i ≠ a.block) : (w.setCell a v).heap[i]? = w.heap[i]? := by
  simp only [World.setCell, Array.getElem?_modify]
  split
  · rename_i e; exact absurd e.symm h
  · rfl

/-- A block of cells on both sides. -/
theorem cells_of (R : HRel E w0 ι σ H w) {b cb co : Nat} {c : List Value} {e : TypeId} (hg : H.m.get b = some (.cells c e)) (hι : ι b = some (cb, co)) :
    ∃ c' e' fr, w.heap[cb]? = some (.cells c' e' fr) ∧ c'.size = σ cb ∧ (fr.1 = fr.2 ∨ c'.size ≤ fr.1) ∧
      ∀ i v, c[i]? = some v → ∃ v', c'[co + i]? = some v' ∧ VRel ι σ v v' := by
  obtain ⟨o, ho, hr⟩ := R.blk b _ hg _ hι
  cases o <;> simp only [ORel] at hr
  rename_i c' e' fr
  obtain ⟨_, h1, h2⟩ := hr
  exact ⟨c', e', fr, ho, R.siz b _ hι _ _ _ ho, h1, h2⟩

theorem store_at {P : Program} {cb i : Nat} {v : Value} {c : Array Value} {e : TypeId} {fr : Nat × Nat} (h : w.heap[cb]? = some (.cells c e fr)) (hi : i < c.size)
    (hf : (decide (fr.1 ≤ i) && decide (i < fr.2)) = false) (hv : v.oneCell' = true) :
    (store ⟨cb, i, none⟩ v).run P w = .ok () (w.setCell ⟨cb, i, none⟩ v) := by
  rw [run_store _ _ _ _ _ hv]
  have h1 : w.cell? ⟨cb, i, none⟩ = some c[i] := by simp [World.cell?, h, Array.getElem?_eq_getElem hi]
  have h2 : w.frozen? ⟨cb, i, none⟩ = false := by
    obtain ⟨f1, f2⟩ := fr
    simpa [World.frozen?, h] using hf
  simp [h1, h2]

theorem store_rel {P : Program} (R : HRel E w0 ι σ H w) {b cb co : Nat} {c : List Value} {e : TypeId} (hg : H.m.get b = some (.cells c e)) (hι : ι b = some (cb, co))
    (hb : E.base ≤ b) (hb' : b ≤ 100000) {i : Nat} (hi : i < c.length) {v v' : Value} (hv : cellV v = true) (hr : VRel ι σ v v') :
    ∃ w', (store ⟨cb, co + i, none⟩ v').run P w = .ok () w' ∧ HRel E w0 ι σ { H with m := H.m.set b (.cells (setAll c i v) e) } w' := by
  obtain ⟨c', e0, fr, h1, h2, h3, h4⟩ := cells_of R hg hι
  have hlt : co + i < c'.size := by
    obtain ⟨u, hu, _⟩ := h4 i c[i] (List.getElem?_eq_getElem hi)
    rcases Nat.lt_or_ge (co + i) c'.size with h | h
    · exact h
    · rw [Array.getElem?_eq_none h] at hu; cases hu
  refine ⟨_, store_at h1 hlt (notFrozen h3 hlt) (cellV_rel hr hv), ?_⟩
  refine update_rel R hg hι hb rfl (fun b' hne => T.get_set_other _ _ _ _ hne) (T.get_set_same _ _ _ hb') (by simp) (fun j hj => heap_setCell_other hj) (heap_setCell h1) ?_ ?_ rfl rfl rfl
  · refine ⟨rfl, by simpa using h3, fun j u hu => ?_⟩
    rw [setAll_eq, List.getElem?_set] at hu
    by_cases e : i = j
    · subst e
      simp [hi] at hu; subst hu
      exact ⟨v', by simp [hlt], hr⟩
    · simp [e] at hu
      obtain ⟨u', a, b⟩ := h4 j u hu
      refine ⟨u', ?_, b⟩
      rw [Array.getElem?_setIfInBounds_ne (by omega)]; exact a
  · intro cs e' fr' he
    cases he
    simpa using h2

theorem storeCells_rel {P : Program} {b cb co : Nat} {e : TypeId} (hι : ι b = some (cb, co)) (hb : E.base ≤ b) (hb' : b ≤ 100000) (off : Nat) :
    ∀ (vs vs' : List Value) (i : Nat) (c : List Value) (H : AH) (w : World), HRel E w0 ι σ H w → H.m.get b = some (.cells c e) → vs.all cellV = true → VsRel ι σ vs vs' →
      off + i + vs.length ≤ c.length →
      ∃ w', (storeCells ⟨cb, co + off, none⟩ vs' i).run P w = .ok () w' ∧ HRel E w0 ι σ { H with m := H.m.set b (.cells (over c (off + i) vs) e) } w'
  | [], _, i, c, H, w, R, hg, _, .nil, _ =>
    ⟨w, by simp [storeCells], R.congr rfl fun b' => by
      by_cases e : b' = b
      · subst e; simp only [over]; rw [T.get_set_same _ _ _ hb', hg]
      · exact T.get_set_other _ _ _ _ e⟩
  | v :: vs, _, i, c, H, w, R, hg, hv, .cons (b := v') (bs := vs') hr ht, hle => by
    simp only [List.all_cons, Bool.and_eq_true] at hv
    simp only [List.length_cons] at hle
    obtain ⟨w1, h1, R1⟩ := store_rel (P := P) R hg hι hb hb' (i := off + i) (by omega) hv.1 hr
    obtain ⟨w2, h2, R2⟩ := storeCells_rel (P := P) hι hb hb' off vs vs' (i + 1) (setAll c (off + i) v) _ w1 R1 (T.get_set_same _ _ _ hb') hv.2 ht (by rw [setAll_eq, List.length_set]; omega)
    refine ⟨w2, ?_, R2.congr rfl fun b' => ?_⟩
    · simp only [storeCells, Sem.run_bind, Addr.add_none]
      rw [show co + off + i = co + (off + i) by omega, h1, Result.andThen_ok, h2]
    · by_cases e : b' = b
      · subst e
        simp only [over]
        rw [T.get_set_same _ _ _ hb', T.get_set_same _ _ _ hb']; rfl
      · rw [T.get_set_other _ _ _ _ e, T.get_set_other _ _ _ _ e, T.get_set_other _ _ _ _ e]

theorem putCells_rel {P : Program} (R : HRel E w0 ι σ H w) {b cb co o : Nat} {vs vs' : List Value} (h : putCells E H b o vs = some H') (hι : ι b = some (cb, co)) (hr : VsRel ι σ vs vs') :
    ∃ w', (storeCells ⟨cb, co + o, none⟩ vs').run P w = .ok () w' ∧ HRel E w0 ι σ H' w' := by
  unfold putCells at h
  cases h1 : (Nat.ble E.base b && vs.all cellV) with
  | false => rw [h1] at h; cases h
  | true =>
    rw [h1] at h
    simp only [Bool.and_eq_true] at h1
    cases hg : H.m.get b with
    | none => rw [hg] at h; cases h
    | some ob =>
      rw [hg] at h
      cases ob <;> try (cases h; done)
      rename_i c e
      simp only at h
      cases h2 : (Nat.ble (o + vs.length) c.length && Nat.ble b 100000) with
      | false => rw [h2] at h; cases h
      | true =>
        rw [h2] at h
        simp only [Bool.and_eq_true] at h2
        have := Option.some.inj h
        subst this
        exact storeCells_rel (P := P) hι (Nat.le_of_ble_eq_true h1.1) (Nat.le_of_ble_eq_true h2.2) o vs vs' 0 c H w R hg h1.2 hr (by have := Nat.le_of_ble_eq_true h2.1; omega)

theorem storeAt_rel (ok : EnvOk E) (R : HRel E w0 ι σ H w) {t : TypeId} {a v a' v' : Value} (h : storeAt E H t a v = some H') (ha : VRel ι σ a a') (hv : VRel ι σ v v') :
    ∃ w', (Instr.storeAt t a' v').run E.P w = .ok () w' ∧ HRel E w0 ι σ H' w' := by
  cases ha <;> simp only [storeAt] at h <;> try (cases h; done)
  rename_i b o cb co hι
  have hf : ∀ k b, v ≠ .float k b := by rintro k b rfl; cases h
  have h2 : (match sizT E t with | some n => (match Nat.beq v.cells.toList.length n with | true => putCells E H b o v.cells.toList | false => none) | none => none) = some H' := by
    cases v <;> first | exact h | exact absurd rfl (hf _ _)
  cases hs : sizT E t with
  | none => rw [hs] at h2; cases h2
  | some n =>
    rw [hs] at h2
    simp only at h2
    cases hl : Nat.beq v.cells.toList.length n with
    | false => rw [hl] at h2; cases h2
    | true =>
      rw [hl] at h2
      have hl' := Nat.eq_of_beq_eq_true hl
      have hc := cells_rel hv hf
      obtain ⟨w', h3, R'⟩ := putCells_rel (P := E.P) R h2 hι hc
      have hlen := hc.l2.length
      refine ⟨w', ?_, R'⟩
      have e1 : v'.cells.size = n := by rw [← hl', hlen]; simp
      simp [Instr.storeAt, Instr.sureAddr, storeVar, run_siz ok hs, e1, h3]

/-! objects -/
theorem getObj_at {P : Program} {r : Nat} {o : Obj} (h : w.heap[r]? = some o) (hc : ∀ c e fr, o ≠ .cells c e fr) : (getObj r).run P w = .ok o w := by
  cases o <;> simp only [getObj, Sem.run, h] <;> first | rfl | exact absurd rfl (hc _ _ _)
theorem setObj_at {P : Program} {r : Nat} {o o' : Obj} (h : w.heap[r]? = some o) (hc : ∀ c e fr, o ≠ .cells c e fr) :
    (setObj r o').run P w = .ok () { w with heap := w.heap.setIfInBounds r o' } := by
  cases o <;> simp only [setObj, Sem.run, h] <;> first | rfl | exact absurd rfl (hc _ _ _)

/-- An object is put in a block's place. -/
theorem setObj_rel (R : HRel E w0 ι σ H w) {b cb co : Nat} {o o' : AObj} {c' : Obj} (hl : H.m.get b = some o) (hι : ι b = some (cb, co)) (hb : E.base ≤ b) (hb' : b ≤ 100000)
    (hr : ORel ι σ co o' c') (hs : ∀ cs e fr, c' ≠ .cells cs e fr) :
    HRel E w0 ι σ { H with m := H.m.set b o' } { w with heap := w.heap.setIfInBounds cb c' } := by
  have hlt : cb < w.heap.size := R.rng b _ hι
  refine update_rel R hl hι hb rfl (fun b' hne => T.get_set_other _ _ _ _ hne) (T.get_set_same _ _ _ hb') (by simp) (fun i hi => ?_) (c' := c') ?_ hr
    (fun cs e fr he => absurd he (hs cs e fr)) rfl rfl rfl
  · simp only [Array.getElem?_setIfInBounds_ne (Ne.symm hi)]
  · simp [hlt]

theorem vals_rel {P : Program} (R : HRel E w0 ι σ H w) {v v' : Value} {size n : Nat} {vs : List Value} (h : vals v (n * size) H = some vs) (hv : VRel ι σ v v') :
    ∃ vs' : List Value, (Builtin.firstCells size n v').run P w = .ok vs'.toArray w ∧ VsRel ι σ vs vs' ∧ vs'.length = n * size := by
  have hz : Nat.beq (n * size) 0 = true → n * size = 0 := Nat.eq_of_beq_eq_true
  cases hv <;> simp only [vals] at h <;> try (cases h; done)
  · cases hb : Nat.beq (n * size) 0 <;> rw [hb] at h <;> try (cases h; done)
    cases h
    exact ⟨[], by simp [Builtin.firstCells], .nil, by simp [hz hb]⟩
  · cases hb : Nat.beq (n * size) 0 <;> rw [hb] at h <;> try (cases h; done)
    cases h
    exact ⟨[], by simp [Builtin.firstCells, hz hb, loadCells, loadCellsFrom], .nil, by simp [hz hb]⟩
  · rename_i b o cb co len cap hι hc
    cases hg : H.m.get b with
    | none => rw [hg] at h; cases h
    | some ob =>
      rw [hg] at h
      cases ob <;> try (cases h; done)
      simp only at h
      obtain ⟨vs', h1, h2, h3⟩ := cut_cells R hg hι h
      exact ⟨vs', by simp only [Builtin.firstCells]; exact h1 P, h2, h3⟩
  · rename_i b o cb co len es cap hι hl hc
    cases hg : H.m.get b with
    | none => rw [hg] at h; cases h
    | some ob =>
      rw [hg] at h
      cases ob <;> try (cases h; done)
      simp only at h
      obtain ⟨vs', h1, h2, h3⟩ := cut_cells R hg hι h
      exact ⟨vs', by simp only [Builtin.firstCells]; exact h1 P, h2, h3⟩
end heap
end Go.Ex

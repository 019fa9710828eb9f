/- Regions that draw their order: they come to the same in every order. -/
import Derived.Test.YtpnfkkoflppkhaaGreatDoorExMach
noncomputable section
namespace Go.Ex

section reg
variable {E : Env} {w0 w : World} {ι : Ren} {σ : Nat → Nat} {H : AH} {lo hi n : Nat} {ops : List Oper} {t0 tm : T Value} {prev : Option Nat} {rest : List Nat} {arr : Array Oper} {listed : Array Bool} {tmps : Array Value}

theorem RegRel.get (R : RegRel ι σ lo hi n ops t0 tm prev rest arr listed tmps) (i : Nat) : ops[i]? = arr[i]? := by rw [← R.ops_]; simp

theorem RegRel.parts (R : RegRel ι σ lo hi n ops t0 tm prev rest arr listed tmps) :
    backward ops 0 = true ∧ distinct (ops.map (·.dst)) = true ∧ linked (masks ops) (chainOf ops 0) = true ∧ (∀ o ∈ ops, ∀ d, o.dst = some d → d < n) ∧ n ≤ 100000 := by
  have h := R.ok
  simp only [regOk, Bool.and_eq_true] at h
  obtain ⟨⟨⟨⟨h1, h2⟩, h3⟩, h4⟩, h5⟩ := h
  refine ⟨h1, h2, h3, fun o ho d hd => ?_, nble_le h5⟩
  have := List.all_eq_true.1 h4 o ho
  rw [hd] at this
  exact nble_le this

theorem rho_rel (R : RegRel ι σ lo hi n ops t0 tm prev rest arr listed tmps) {i : Nat} (hr : i ∈ Region.ready .any arr listed) (t : Nat) :
    VRel ι σ (rhoT ops (masks ops) i t0 tm t) (tmps.getD t undef) := by
  obtain ⟨hi, hf, hfree⟩ := ready_mem hr R.lsz
  unfold rhoT
  have hs : side ops (masks ops) i t = match writer ops t with
      | none => .old
      | some j => (match pre (masks ops) j i with
        | true => .new
        | false => (match Nat.beq i j || pre (masks ops) i j with | true => .old | false => .lost)) := rfl
  rw [hs]
  cases hw : writer ops t with
  | none => exact (R.out t hw).1
  | some j =>
    simp only
    obtain ⟨j', o', h1, h2, _⟩ := writerGo_some ops t 0 j hw
    have hj' : j = j' := by omega
    subst hj'
    have hjl : j < listed.size := by
      rw [R.get] at h2
      obtain ⟨h, _⟩ := Array.getElem?_eq_some_iff.1 h2
      rw [R.lsz]; exact h
    cases hp : pre (masks ops) j i with
    | true => exact R.new t j hw (pre_ahead R.ops_ hp listed R.down (.inr hfree))
    | false =>
      simp only
      cases hq : (Nat.beq i j || pre (masks ops) i j) with
      | false => exact .poison _
      | true =>
        simp only
        refine R.old t j hw ?_
        cases hx : listed[j] with
        | false => rw [Array.getElem?_eq_getElem hjl, hx]
        | true =>
          exfalso
          have hx' : listed[j]? = some true := by rw [Array.getElem?_eq_getElem hjl, hx]
          simp only [Bool.or_eq_true] at hq
          rcases hq with hq | hq
          · have := nbeq_eq hq
            subst this
            rw [hf] at hx'; cases hx'
          · have := pre_ahead R.ops_ hq listed R.down (.inl hx')
            rw [hf] at this; cases this

theorem want_rel {r : Nat → Value} (hr : ∀ t, VRel ι σ (r t) (tmps.getD t undef)) (hs : tmps.size = n) (ha : arr.toList = ops) {o : Oper} {b : Bool} (h : wantR ops n r o = some b) :
    Region.wanted o (yielded arr tmps) = b := by
  unfold wantR at h
  unfold Region.wanted
  cases hg : o.guard with
  | none => rw [hg] at h; simpa using h
  | some p =>
    obtain ⟨j, want⟩ := p
    rw [hg] at h
    simp only at h ⊢
    have hd : dstOf ops j = (arr[j]?).bind (·.dst) := by
      unfold dstOf
      rw [getAll_eq, ← ha]
      cases hj : arr[j]? with
      | none => simp [hj]
      | some o => simp [hj]
    rw [hd] at h
    unfold yielded
    cases hx : (arr[j]?).bind (·.dst) with
    | none => rw [hx] at h; simp at h; subst h; simp
    | some d =>
      rw [hx] at h
      simp only at h
      split at h <;> try (cases h; done)
      · rename_i hb hrd
        have hlt : d < tmps.size := by rw [hs]; exact nble_le hb
        have := hr d
        rw [hrd] at this
        have hv : tmps[d]? = some (tmps.getD d undef) := by simp [Array.getElem?_eq_getElem hlt]
        generalize tmps.getD d undef = u at this hv
        cases this
        simp only [Option.some.injEq] at h
        subst h
        simp [hv]
      · rename_i hb hrd
        have hlt : d < tmps.size := by rw [hs]; exact nble_le hb
        have := hr d
        rw [hrd] at this
        have hv : tmps[d]? = some (tmps.getD d undef) := by simp [Array.getElem?_eq_getElem hlt]
        generalize tmps.getD d undef = u at this hv
        cases this
        simp only [Option.some.injEq] at h
        subst h
        simp [hv]

theorem listed_set {i j : Nat} {b : Bool} (hi : i < listed.size) : (listed.setIfInBounds i true)[j]? = some b ↔ (j = i ∧ b = true) ∨ (j ≠ i ∧ listed[j]? = some b) := by
  by_cases e : j = i
  · subst e; simp [hi]
  · rw [Array.getElem?_setIfInBounds_ne (Ne.symm e)]; simp [e]

theorem tmps_set {o : Oper} {v : Value} {t : Nat} (h : o.dst ≠ some t) : (putC tmps o.dst v).getD t undef = tmps.getD t undef := by
  cases hd : o.dst with
  | none => rfl
  | some d =>
    have : d ≠ t := fun e => h (by rw [hd, e])
    simp [putC, Array.getElem?_setIfInBounds_ne this]

theorem tmps_size {o : Oper} {v : Value} : (putC tmps o.dst v).size = tmps.size := by
  cases o.dst <;> simp [putC]

/-- A movable operation has been carried out. -/
theorem RegRel.mov (R : RegRel ι σ lo hi n ops t0 tm prev rest arr listed tmps) {ι' : Ren} {σ' : Nat → Nat} (hs : Sub ι σ ι' σ')
    {i : Nat} {o : Oper} (hr : i ∈ Region.ready .any arr listed) (ho : arr[i]? = some o) (hm : isMov o = true) {v : Value} (hv : ∀ d, o.dst = some d → VRel ι' σ' (tget tm d) v) (hnp : ∀ d, o.dst = some d → isPoison (tget tm d) = false)
    (hnone : ∀ (m : Nat) (o' : Oper) (e : TypeId) (d : Tmp), m ≠ i → arr[m]? = some o' → isAlloc o' = some e → o'.dst = some d → listed[m]? = some false → ∀ b off, tget tm d = .pointer (some ⟨b, off, none⟩) → ι' b = none) :
    RegRel ι' σ' lo hi n ops t0 tm prev rest arr (listed.setIfInBounds i true) (putC tmps o.dst v) := by
  obtain ⟨hi, hf, hfree⟩ := ready_mem hr R.lsz
  have hil : i < listed.size := by rw [R.lsz]; exact hi
  obtain ⟨_, hdist, _, hdn, _⟩ := R.parts
  have hoi : ops[i]? = some o := by rw [R.get]; exact ho
  have hwr : ∀ t j, writer ops t = some j → o.dst = some t → i = j := fun t j hw hd => writer_unique hdist hw hoi hd
  have hsome : ∀ t j, writer ops t = some j → ∃ o', ops[j]? = some o' ∧ o'.dst = some t := fun t j hw => by
    obtain ⟨j', o', h1, h2, h3⟩ := writerGo_some ops t 0 j hw
    have : j = j' := by omega
    subst this; exact ⟨o', h2, h3⟩
  constructor
  · exact R.ops_
  · exact R.ok
  · simpa using R.lsz
  · intro j o' hj ho' e he hb
    rw [listed_set hil] at hj ⊢
    by_cases ej : e.on = i
    · exact .inl ⟨ej, rfl⟩
    · refine .inr ⟨ej, ?_⟩
      rcases hj with ⟨rfl, _⟩ | ⟨_, hj⟩
      · exact hfree o' ho' e he hb
      · exact R.down j o' hj ho' e he hb
  · obtain ⟨done, h1, h2, h3, h4⟩ := R.chain
    have hnc : ∀ c ∈ chainOf ops 0, c ≠ i := fun c hc e => by
      obtain ⟨i', o', h5, h6, h7⟩ := (mem_chainOf ops 0 c).1 hc
      have : i' = i := by omega
      subst this
      rw [hoi] at h6; cases h6; rw [hm] at h7; cases h7
    refine ⟨done, h1, h2, fun c hc => ?_, fun c hc => ?_⟩
    · rw [listed_set hil]; exact .inr ⟨hnc c (by rw [h1]; simp [hc]), h3 c hc⟩
    · rw [listed_set hil]; exact .inr ⟨hnc c (by rw [h1]; simp [hc]), h4 c hc⟩
  · rw [tmps_size]; exact R.tsz
  · intro t hw
    have hd : o.dst ≠ some t := fun e => writerGo_none ops t 0 hw i o hoi e
    rw [tmps_set hd]
    exact ⟨(R.out t hw).1.mono hs, (R.out t hw).2.mono hs⟩
  · intro t j hw hj
    rw [listed_set hil] at hj
    rcases hj with ⟨_, h⟩ | ⟨hne, hj⟩
    · cases h
    · have hd : o.dst ≠ some t := fun e => hne (hwr t j hw e).symm
      rw [tmps_set hd]
      exact (R.old t j hw hj).mono hs
  · intro t j hw hj
    rw [listed_set hil] at hj
    rcases hj with ⟨rfl, _⟩ | ⟨hne, hj⟩
    · obtain ⟨o', h1, h2⟩ := hsome t j hw
      rw [hoi] at h1; cases h1
      have hlt : t < tmps.size := by rw [R.tsz]; exact hdn o (List.mem_of_getElem? hoi) t h2
      simp only [h2]
      have := hv t h2
      simpa [putC, hlt] using this
    · have hd : o.dst ≠ some t := fun e => hne (hwr t j hw e).symm
      rw [tmps_set hd]
      exact (R.new t j hw hj).mono hs
  · intro j o' d h1 h2 h3 h4
    rw [listed_set hil] at h4
    rcases h4 with ⟨rfl, _⟩ | ⟨_, h4⟩
    · rw [ho] at h1; cases h1; exact hnp d h3
    · exact R.np j o' d h1 h2 h3 h4
  · intro m o' e d h1 h2 h3 h4 b off h5
    rw [listed_set hil] at h4
    rcases h4 with ⟨_, h⟩ | ⟨hne, h4⟩
    · cases h
    · obtain ⟨a1, a2, _⟩ := R.pend m o' e d h1 h2 h3 h4 b off h5
      exact ⟨a1, a2, hnone m o' e d hne h1 h2 h3 h4 b off h5⟩
  · intro m m' o1 o2 e1 e2 d1 d2 h1 h2 h3 h4 h5 h6 h7 h8
    rw [listed_set hil] at h7 h8
    rcases h7 with ⟨_, h⟩ | ⟨_, h7⟩
    · cases h
    · rcases h8 with ⟨_, h⟩ | ⟨_, h8⟩
      · cases h
      · exact R.inj m m' o1 o2 e1 e2 d1 d2 h1 h2 h3 h4 h5 h6 h7 h8

theorem mono_hi (R : RegRel ι σ lo hi n ops t0 tm prev rest arr listed tmps) {ι' : Ren} {σ' : Nat → Nat} (he : Ext hi ι σ ι' σ') :
    ∀ (m : Nat) (o' : Oper) (e : TypeId) (d : Tmp), arr[m]? = some o' → isAlloc o' = some e → o'.dst = some d → listed[m]? = some false → ∀ b off, tget tm d = .pointer (some ⟨b, off, none⟩) → ι' b = none :=
  fun m o' e d h1 h2 h3 h4 b off h5 => let ⟨_, a2, a3⟩ := R.pend m o' e d h1 h2 h3 h4 b off h5; he.2 b a2 a3

/-- A block that was promised is made. -/
theorem mat_rel (R : HRel E w0 ι σ H w) {b : Nat} {zc : List Value} {e : TypeId} (hg : H.m.get b = some (.cells zc e)) (hn : ι b = none) {ds : Array Value}
    (hd : VsRel ι σ zc (ds.toList.take zc.length)) :
    ∃ ι' σ', Sub ι σ ι' σ' ∧ (∀ x, x ≠ b → ι x = none → ι' x = none) ∧ ι' b = some (w.heap.size, 0) ∧ HRel E w0 ι' σ' H (w.alloc (.cells ds e)) := by
  let ι' : Ren := fun x => if x = b then some (w.heap.size, 0) else ι x
  let σ' : Nat → Nat := fun r => if r = w.heap.size then ds.size else σ r
  have hne : ∀ x y, ι x = some y → x ≠ b := fun x y hx e => by rw [e, hn] at hx; cases hx
  have hsub : Sub ι σ ι' σ' := fun x y hx => ⟨by simp [ι', hne x y hx, hx], by simp [σ', Nat.ne_of_lt (R.rng x y hx)]⟩
  have hι : ∀ x y, ι' x = some y → (x = b ∧ y = (w.heap.size, 0)) ∨ (x ≠ b ∧ ι x = some y) := fun x y hx => by
    by_cases ex : x = b
    · simp [ι', ex] at hx; exact .inl ⟨ex, hx.symm⟩
    · simp [ι', ex] at hx; exact .inr ⟨ex, hx⟩
  have hsz : (w.alloc (.cells ds e)).heap.size = w.heap.size + 1 := by simp
  have hold : ∀ i, i < w.heap.size → (w.alloc (.cells ds e)).heap[i]? = w.heap[i]? := fun i hi => getElem?_push_lt hi
  have hnew := heap_alloc_new w (.cells ds e)
  have hb := R.live b _ hg
  refine ⟨ι', σ', hsub, fun x hx h => by simp [ι', hx, h], by simp [ι'], ?_⟩
  constructor
  · intro x o hx y hy
    rcases hι x y hy with ⟨rfl, rfl⟩ | ⟨hne', hy'⟩
    · rw [hg] at hx; cases hx
      exact ⟨_, hnew, ORel.row (VsRel.mono hsub hd)⟩
    · obtain ⟨c, h1, h2⟩ := R.blk x o hx y hy'
      exact ⟨c, by rw [hold _ (R.rng x y hy')]; exact h1, h2.mono hsub⟩
  · intro x x' o1 o2 h1 h2 y y' hy hy' he
    rcases hι x y hy with ⟨ex, ey⟩ | ⟨ex, ey⟩ <;> rcases hι x' y' hy' with ⟨ex', ey'⟩ | ⟨ex', ey'⟩
    · rw [ex, ex']
    · have := R.rng x' y' ey'; rw [ey] at he; simp at he; omega
    · have := R.rng x y ey; rw [ey'] at he; simp at he; omega
    · exact R.inj x x' o1 o2 h1 h2 y y' ey ey' he
  · intro x y hx
    rw [hsz]
    rcases hι x y hx with ⟨_, ey⟩ | ⟨_, ey⟩
    · rw [ey]; exact Nat.lt_succ_self _
    · have := R.rng x y ey; omega
  · intro x y hx cs e' fr hc
    rcases hι x y hx with ⟨_, ey⟩ | ⟨_, ey⟩
    · subst ey
      simp only [hnew, Option.some.injEq] at hc
      cases hc
      simp [σ']
    · have hr := R.rng x y ey
      rw [hold _ hr] at hc
      have := R.siz x y ey cs e' fr hc
      simp [σ', Nat.ne_of_lt hr, this]
  · intro x hx
    have : x ≠ b := by omega
    simp [ι', this, R.dom x hx]
  · exact R.live
  · intro g hg'
    have h1 := R.glob g hg'
    simp [ι', hne g _ h1, h1]
  · intro x y hx hy
    rcases hι x y hy with ⟨_, ey⟩ | ⟨_, ey⟩
    · rw [ey]; exact R.size
    · exact R.new x y hx ey
  · intro i hi'
    rw [hold i (Nat.lt_of_lt_of_le hi' R.size)]; exact R.old i hi'
  · rw [hsz]; have := R.size; omega
  · exact R.tape
  · exact R.os
  · exact R.out

theorem allocCells_next {H H' : AH} {e : TypeId} {cs : List Value} {a : Addr} (h : allocCells H e cs = some (a, H')) : H'.next = H.next + 1 := by
  unfold allocCells alloc at h
  cases hb : Nat.ble H.next 100000 with
  | false => rw [hb] at h; simp at h
  | true =>
    rw [hb] at h
    simp only [Option.some.injEq, Prod.mk.injEq] at h
    rw [← h.2]

/-- A movable operation that makes no block leaves the heap alone. -/
theorem mov_heap {o : Oper} (hm : isMov o = true) (ha : isAlloc o = none) {r : Nat → Value} {v : Value} {H' : AH} (h : (opF E o).f r H = .val v H') (hn : H'.next = H.next) : H' = H := by
  have hval : ∀ u, val u H = .val v H' → H' = H := fun u hu => by cases u <;> simp [val] at hu; exact hu.2.symm
  have hvalP : ∀ u, valP u H = .val v H' → H' = H := fun u hu => by
    cases u with
    | none => simp [valP] at hu
    | some x => simp only [valP] at hu; split at hu <;> simp at hu; exact hu.2.symm
  obtain ⟨dst, op, type, pos, after, guard⟩ := o
  cases op <;> simp only [opF] at h <;> (try (simp [isMov] at hm; done)) <;> (try (simp [isAlloc] at ha; done)) <;> (try exact hval _ h)
  case move x => simp at h; exact h.2.symm
  case assign x => simp at h; exact h.2.symm
  case pick c a b => unfold aPick at h; split at h <;> simp at h <;> exact h.2.symm
  case nilCheck x => unfold aNilCheck at h; split at h <;> simp at h <;> exact h.2.symm
  case binOp op t x y yt =>
    have hslow : ∀ a b, binSlow E op t x y a b H = .val v H' → H' = H := fun a b hb => by
      unfold binSlow at hb
      split at hb
      · exact hvalP _ hb
      · unfold binNil at hb
        split at hb
        · split at hb <;> simp at hb <;> exact hb.2.symm
        · cases hb
    unfold aBin at h
    split at h
    · split at h
      · unfold binInts at h
        split at h
        · split at h
          · simp at h; exact h.2.symm
          · exact hslow _ _ h
        · exact hslow _ _ h
      · exact hslow _ _ h
    · exact hslow _ _ h
  case unOp op t x => unfold aUn at h; split at h; exact hvalP _ h; cases h
  case convert s d x =>
    have hV : ∀ u : Option (Value × AH), (∀ p, u = some p → p.2 = H ∨ p.2.next = H.next + 1) → valH u = .val v H' → H' = H := fun u hu hh => by
      cases u with
      | none => simp [valH] at hh
      | some p =>
        simp [valH] at hh
        rcases hu p rfl with h1 | h1
        · rw [← hh.2]; exact h1
        · rw [hh.2] at h1; omega
    refine hV _ (fun p hp => ?_) h
    unfold convV at hp
    split at hp <;> try (cases hp; done)
    unfold convT at hp
    split at hp
    · split at hp <;> try (cases hp; done)
      simp at hp; subst hp; exact .inl rfl
    · split at hp <;> try (cases hp; done)
      · simp at hp; subst hp; exact .inl rfl
      · split at hp <;> try (cases hp; done)
        unfold bytesV at hp
        split at hp <;> try (cases hp; done)
        split at hp <;> try (cases hp; done)
        simp at hp; subst hp; exact .inl rfl
    · split at hp <;> try (cases hp; done)
      · unfold strBytes at hp
        split at hp <;> try (cases hp; done)
        split at hp <;> try (cases hp; done)
        split at hp <;> try (cases hp; done)
        rename_i hal
        simp at hp; subst hp
        exact .inr (allocCells_next hal)
      · split at hp <;> try (cases hp; done)
        unfold sameBytes at hp
        split at hp <;> try (cases hp; done)
        simp at hp; subst hp; exact .inl rfl
    · cases hp
  case makeInterface t x => unfold aIface at h; split at h <;> simp at h; exact h.2.symm
  case makeFunc fn a b => unfold aFunc at h; split at h <;> simp at h; exact h.2.symm
  case extract t i => unfold aExtract at h; split at h; exact hval _ h; cases h
  case call c =>
    have hb : ∃ b, c.callee = .builtin b ∧ (b = .len ∨ b = .max ∨ b = .min) := by
      simp only [isMov] at hm
      split at hm <;> first | (rename_i hc; exact ⟨_, hc, by simp⟩) | cases hm
    obtain ⟨b, hc, hb⟩ := hb
    unfold aCall targetF at h
    rw [hc] at h
    simp only [runT] at h
    rcases hb with rfl | rfl | rfl <;> simp only [builtinF] at h
    · split at h; exact hval _ h; cases h
    · split at h; exact hvalP _ h; cases h
    · split at h; exact hvalP _ h; cases h
end reg
end Go.Ex

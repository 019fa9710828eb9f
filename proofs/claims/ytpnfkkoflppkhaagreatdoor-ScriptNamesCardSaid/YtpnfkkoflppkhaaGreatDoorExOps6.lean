/- Operations side by side, the sixth part: appends, lengths, maps. -/
import Derived.Test.YtpnfkkoflppkhaaGreatDoorExOps5
noncomputable section
namespace Go.Ex

section ops
variable {E : Env} {w0 w : World} {ι : Ren} {σ : Nat → Nat} {H : AH} {r : Nat → Value} {tmps : Array Value}

theorem len_ok (ok : EnvOk E) (R : HRel E w0 ι σ H w) (ts : Array TypeId) (t : TypeId) {x x' : Value} {rest' : List Value} (hx : VRel ι σ x x') (args' : Array Value) (ha : args'.toList = x' :: rest') :
    ResOk E w0 ι σ H w (val (lenV E H ts x) H) ((do pure (.value (← Builtin.len_ ts t args')) : Sem Next).run E.P w) := by
  refine ResOk.val_opt R fun y hy => ?_
  unfold lenV at hy
  cases hts : ts.toList with
  | nil => simp [hts] at hy
  | cons t0 ts' =>
    simp only [hts] at hy
    have h0 : ts[0]? = some t0 := by
      have : ts.toList[0]? = some t0 := by rw [hts]; rfl
      simpa using this
    have h1 : args'[0]? = some x' := by
      have : args'.toList[0]? = some x' := by rw [ha]; rfl
      simpa using this
    cases hd : E.und.get t0 with
    | none => simp [hd] at hy
    | some d =>
      have hu := run_und (w := w) ok hd
      simp only [hd] at hy
      split at hy <;> try (cases hy; done)
      · rename_i s he; cases hx; simp at hy; subst hy
        cases he
        exact ⟨_, by simp [Builtin.len_, h0, h1, hu, goInt], .int _ _⟩
      · rename_i n e v he
        cases he; simp at hy; subst hy
        exact ⟨_, by simp [Builtin.len_, h0, h1, hu, goInt], .int _ _⟩
      · rename_i e a n c he
        cases he; simp at hy; subst hy
        cases hx <;> exact ⟨_, by simp [Builtin.len_, h0, h1, hu, goInt], .int _ _⟩
      · rename_i k e he
        cases he; simp at hy; subst hy
        cases hx
        exact ⟨_, by simp [Builtin.len_, h0, h1, hu, goInt], .int _ 0⟩
      · rename_i k e r he
        cases he
        cases hx
        rename_i r' hι
        cases hg : H.m.get r with
        | none => simp [hg] at hy
        | some o =>
          cases o <;> simp only [hg] at hy <;> try (cases hy; done)
          rename_i es clock
          simp at hy; subst hy
          obtain ⟨c, h2, h3⟩ := R.blk r _ hg _ hι
          cases c <;> simp only [ORel] at h3
          rename_i es' clock'
          obtain ⟨_, rfl, h5⟩ := h3
          have h6 := h5.length
          have hgo := getObj_at (P := E.P) h2 (by intros; simp)
          simp only at hgo
          exact ⟨_, by simp [Builtin.len_, h0, h1, hu, goInt, hgo]; rfl, by rw [h6]; simpa using VRel.int .i64 (es'.size : Int)⟩

theorem growBy_le {need : Nat} : ∀ n c, c ≤ 2 * need + 768 → Builtin.growBy need n c ≤ 2 * need + 768
  | 0, c, h => h
  | n + 1, c, h => by
    simp only [Builtin.growBy]
    split
    · exact h
    · exact growBy_le n _ (by omega)

theorem nextcap_le {need old : Nat} (h : old < need) : Builtin.nextslicecap need old ≤ 2 * need + 768 := by
  unfold Builtin.nextslicecap
  split
  · omega
  · split
    · omega
    · exact growBy_le 4 old (by omega)

/-- Cells stored into a block of the machine. -/
theorem storeCells_conc {P : Program} {cb : Nat} {e : TypeId} {fr : Nat × Nat} (base : Nat) : ∀ (vs : List Value) (i : Nat) (c : Array Value) (w : World),
    w.heap[cb]? = some (.cells c e fr) → (fr.1 = fr.2 ∨ c.size ≤ fr.1) → base + i + vs.length ≤ c.size → (∀ v ∈ vs, v.oneCell' = true) →
    ∃ w' c', (storeCells ⟨cb, base, none⟩ vs i).run P w = .ok () w' ∧ w'.heap[cb]? = some (.cells c' e fr) ∧ c'.toList = over c.toList (base + i) vs ∧
      w'.heap.size = w.heap.size ∧ (∀ j, j ≠ cb → w'.heap[j]? = w.heap[j]?) ∧ w'.tape = w.tape ∧ w'.os = w.os ∧ w'.output = w.output
  | [], i, c, w, h, _, _, _ => ⟨w, c, by simp [storeCells], h, by simp [over], rfl, fun _ _ => rfl, rfl, rfl, rfl⟩
  | v :: vs, i, c, w, h, hf, hle, hv => by
    simp only [List.length_cons] at hle
    have h1 := store_at (P := P) (i := base + i) h (by omega) (notFrozen hf (by omega)) (hv v (by simp))
    have h2 := heap_setCell (i := base + i) (v := v) h
    obtain ⟨w', c', h3, h4, h5, h6, h7, h8, h9, h10⟩ := storeCells_conc (P := P) base vs (i + 1) (c.setIfInBounds (base + i) v) (w.setCell ⟨cb, base + i, none⟩ v) h2 (by simpa using hf) (by simp; omega)
      (fun u hu => hv u (by simp [hu]))
    refine ⟨w', c', ?_, h4, ?_, by simpa using h6, fun j hj => ?_, h8, h9, h10⟩
    · simp only [storeCells, Sem.run_bind, Addr.add_none, h1, Result.andThen_ok, h3]
    · rw [h5]
      simp [over, setAll_eq, Array.toList_setIfInBounds, Nat.add_assoc]
    · rw [h7 j hj]; exact heap_setCell_other hj

theorem cellVs {vs vs' : List Value} (h : VsRel ι σ vs vs') (hc : vs.all cellV = true) : ∀ v ∈ vs', v.oneCell' = true := by
  induction h.l2 with
  | nil => simp
  | cons hr _ ih =>
    rename_i a b as bs ht
    simp only [List.all_cons, Bool.and_eq_true] at hc
    intro v hv
    simp only [List.mem_cons] at hv
    rcases hv with rfl | hv
    · exact cellV_rel hr hc.1
    · exact ih (by cases h; assumption) hc.2 v hv

/-- The block of a slice without known room is handed on to a new one, in its place. -/
theorem move_rel {P : Program} (R : HRel E w0 ι σ H w) {b cb co o k : Nat} {c : List Value} {e : TypeId} (hg : H.m.get b = some (.cells c e)) (hι : ι b = some (cb, co)) (hb : E.base ≤ b)
    (hb' : b ≤ 100000) {old vs vs' : List Value} (hc : cut c o k = some old) (hv : VsRel ι σ vs vs') (hvc : vs.all cellV = true) (hroom : co + o + k + vs.length ≤ σ cb)
    {a : Addr} {H' : AH} (ha : allocCells { H with m := H.m.del b } e (old ++ vs) = some (a, H')) :
    ∃ ι' w', (storeCells ⟨cb, co + o + k, none⟩ vs').run P w = .ok () w' ∧ Ext H.next ι σ ι' σ ∧ a = ⟨H.next, 0, none⟩ ∧ ι' H.next = some (cb, co + o) ∧ HRel E w0 ι' σ H' w' ∧ H.next < H'.next := by
  obtain ⟨c', e0, fr, h1, h2, h3, h4⟩ := cells_of R hg hι
  have hlv := hv.l2.length
  obtain ⟨w', c'', h5, h6, h7, h8, h9, h10, h11, h12⟩ := storeCells_conc (P := P) (co + o + k) vs' 0 c' w h1 h3 (by omega) (cellVs hv hvc)
  obtain ⟨hck, rfl⟩ := cut_some hc
  unfold allocCells alloc at ha
  simp only at ha
  cases hn : Nat.ble H.next 100000 with
  | false => rw [hn] at ha; simp at ha
  | true =>
    rw [hn] at ha
    simp only [Option.some.injEq, Prod.mk.injEq] at ha
    obtain ⟨rfl, rfl⟩ := ha
    have hle := nble_le hn
    let ι' : Ren := fun x => if x = H.next then some (cb, co + o) else ι x
    have hbn : b < H.next := R.live b _ hg
    have hne : ∀ x y, ι x = some y → x ≠ H.next := fun x y hx ex => by
      have := R.dom x (by omega); rw [hx] at this; cases this
    have hsub : Sub ι σ ι' σ := fun x y hx => ⟨by simp [ι', hne x y hx, hx], rfl⟩
    have hι' : ∀ x y, ι' x = some y → (x = H.next ∧ y = (cb, co + o)) ∨ (x ≠ H.next ∧ ι x = some y) := fun x y hx => by
      by_cases ex : x = H.next
      · simp [ι', ex] at hx; exact .inl ⟨ex, hx.symm⟩
      · simp [ι', ex] at hx; exact .inr ⟨ex, hx⟩
    have hget : ∀ x ob, x ≠ H.next → ((H.m.del b).set H.next (.cells ((c.drop o).take k ++ vs) e)).get x = some ob → x ≠ b ∧ H.m.get x = some ob := fun x ob hx hob => by
      rw [T.get_set_other _ _ _ _ hx] at hob
      by_cases exb : x = b
      · rw [exb, T.get_del_same _ _ hb'] at hob; cases hob
      · rw [T.get_del_other _ _ _ exb] at hob; exact ⟨exb, hob⟩
    have hcb : ∀ x ob y, x ≠ b → H.m.get x = some ob → ι x = some y → y.1 ≠ cb := fun x ob y hx hob hy he =>
      hx (R.inj x b ob _ hob hg y (cb, co) hy hι he)
    have hcs : c''.size = c'.size := by
      have := congrArg List.length h7
      rw [length_over] at this
      simpa using this
    refine ⟨ι', w', h5, ⟨hsub, fun x hx hxn => by simp [ι', Nat.ne_of_lt hx, hxn]⟩, rfl, by simp [ι'], ?_, Nat.lt_succ_self _⟩
    constructor
    · intro x ob hob y hy
      simp only at hob
      by_cases ex : x = H.next
      · subst ex
        rw [T.get_set_same _ _ _ hle] at hob
        simp at hob; subst hob
        have : y = (cb, co + o) := by simpa [ι'] using hy.symm
        subst this
        refine ⟨_, h6, rfl, by rw [hcs]; exact h3, fun i v hiv => ?_⟩
        have hlen : ((c.drop o).take k).length = k := by simp; omega
        have hel : c''[co + o + i]? = (over c'.toList (co + o + k) vs')[co + o + i]? := by rw [← Nat.add_zero (co + o + k), ← h7]; simp
        rw [hel, get_over _ _ _ _ (by simp; omega)]
        by_cases hik : i < k
        · rw [List.getElem?_append_left (by omega), List.getElem?_take, if_pos hik, List.getElem?_drop] at hiv
          rw [if_neg (by omega)]
          obtain ⟨v', h13, h14⟩ := h4 _ _ hiv
          refine ⟨v', ?_, h14.mono hsub⟩
          rw [← Nat.add_assoc] at h13
          simpa using h13
        · rw [List.getElem?_append_right (by omega), hlen] at hiv
          obtain ⟨v', h13, h14⟩ := hv.l2.get hiv
          have hlt : i - k < vs.length := by
            rcases Nat.lt_or_ge (i - k) vs.length with h | h
            · exact h
            · rw [List.getElem?_eq_none h] at hiv; cases hiv
          rw [if_pos (by omega)]
          exact ⟨v', by rw [show co + o + i - (co + o + k) = i - k by omega]; exact h13, h14.mono hsub⟩
      · obtain ⟨exb, hob'⟩ := hget x ob ex hob
        have hy' : ι x = some y := by simpa [ι', ex] using hy
        obtain ⟨d, h13, h14⟩ := R.blk x ob hob' y hy'
        exact ⟨d, by rw [h9 _ (hcb x ob y exb hob' hy')]; exact h13, h14.mono hsub⟩
    · intro x x' o1 o2 g1 g2 y y' hy hy' he
      simp only at g1 g2
      rcases hι' x y hy with ⟨ex, ey⟩ | ⟨ex, ey⟩ <;> rcases hι' x' y' hy' with ⟨ex', ey'⟩ | ⟨ex', ey'⟩
      · rw [ex, ex']
      · obtain ⟨q1, q2⟩ := hget x' o2 ex' g2
        rw [ey] at he
        exact absurd he.symm (hcb x' o2 y' q1 q2 ey')
      · obtain ⟨q1, q2⟩ := hget x o1 ex g1
        rw [ey'] at he
        exact absurd he (hcb x o1 y q1 q2 ey)
      · exact R.inj x x' o1 o2 (hget x o1 ex g1).2 (hget x' o2 ex' g2).2 y y' ey ey' he
    · intro x y hx
      rw [h8]
      rcases hι' x y hx with ⟨_, ey⟩ | ⟨_, ey⟩
      · rw [ey]; have := R.rng b _ hι; exact this
      · exact R.rng x y ey
    · intro x y hx cs e' fr' hcs'
      by_cases ey : y.1 = cb
      · rw [ey, h6] at hcs'
        cases hcs'
        rw [ey, hcs]; exact h2
      · rw [h9 _ ey] at hcs'
        rcases hι' x y hx with ⟨_, ey'⟩ | ⟨_, ey'⟩
        · rw [ey'] at ey; exact absurd rfl ey
        · exact R.siz x y ey' cs e' fr' hcs'
    · intro x hx
      simp only at hx
      have : x ≠ H.next := by omega
      simp [ι', this, R.dom x (by omega)]
    · intro x ob hob
      simp only at hob ⊢
      by_cases ex : x = H.next
      · omega
      · have := R.live x ob (hget x ob ex hob).2; omega
    · intro g hg'
      have := R.glob g hg'
      simp [ι', hne g _ this, this]
    · intro x y hx hy
      rcases hι' x y hy with ⟨_, ey⟩ | ⟨_, ey⟩
      · rw [ey]; have := R.new b _ hb hι; exact this
      · exact R.new x y hx ey
    · intro i hi
      have := R.new b _ hb hι
      simp only at this
      rw [h9 i (by omega)]; exact R.old i hi
    · rw [h8]; exact R.size
    · rw [h10]; exact R.tape
    · rw [h11]; exact R.os
    · rw [h12]; exact R.out
end ops
end Go.Ex

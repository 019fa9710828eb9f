/- Regions that draw their order: the movable operations, and a phase. -/
import Derived.Test.YtpnfkkoflppkhaaGreatDoorExReg2
noncomputable section
namespace Go.Ex

section reg
variable {E : Env} {w0 : World} {n : Nat} {ops : List Oper} {t0 : T Value} {prev : Option Nat} {rest : List Nat} {arr : Array Oper}

theorem vbeq_eq : ∀ (f : Nat), (∀ a b, vbeq f a b = true → a = b) ∧ (∀ a b, vsbeq f a b = true → a = b)
  | 0 => ⟨fun a b h => by simp [vbeq] at h, fun a b h => by simp [vsbeq] at h⟩
  | f + 1 => by
    obtain ⟨ih1, ih2⟩ := vbeq_eq f
    have hl : ∀ (a b : Array Value), vsbeq f a.toList b.toList = true → a = b := fun a b h => Array.toList_inj.1 (ih2 _ _ h)
    refine ⟨fun a b h => ?_, fun a b h => ?_⟩
    · unfold vbeq at h
      split at h <;> try (cases h; done)
      · simp at h; rw [h]
      · simp only [Bool.and_eq_true] at h; rw [sameK_eq h.1]; simp at h; rw [h.2]
      · simp at h
        rename_i a b
        have : a = b := by obtain ⟨a⟩ := a; obtain ⟨b⟩ := b; simp at h; rw [h]
        rw [this]
      · rfl
      · simp only [Bool.and_eq_true] at h; rw [nbeq_eq h.1, nbeq_eq h.2]
      · simp only [Bool.and_eq_true] at h; rw [nbeq_eq h.1, nbeq_eq h.2]
      · simp only [Bool.and_eq_true] at h; rw [nbeq_eq h.1.1.1, nbeq_eq h.1.1.2, nbeq_eq h.1.2, nbeq_eq h.2]
      · rfl
      · rw [nbeq_eq h]
      · rfl
      · rfl
      · simp only [Bool.and_eq_true] at h; rw [nbeq_eq h.1.1, hl _ _ h.1.2, hl _ _ h.2]
      · simp only [Bool.and_eq_true] at h; rw [nbeq_eq h.1, ih1 _ _ h.2]
      · rw [hl _ _ h]
      · rw [hl _ _ h]
    · cases a with
      | nil => cases b with
        | nil => rfl
        | cons y ys => simp [vsbeq] at h
      | cons x xs => cases b with
        | nil => simp [vsbeq] at h
        | cons y ys =>
          simp only [vsbeq, Bool.and_eq_true] at h
          rw [ih1 _ _ h.1, ih2 _ _ h.2]

theorem vbeq_np {f : Nat} {a b : Value} (h : vbeq f a b = true) : isPoison b = false := by
  cases b <;> first | rfl | (cases f <;> cases a <;> simp [vbeq] at h)

theorem okAll_mem {act : Nat → Bool} {tm : T Value} {H : AH} {ms : List Nat} : ∀ {l : List Nat}, okAll E ops n ms act t0 tm H l = true → ∀ m ∈ l, act m = true → okMov E ops n ms t0 tm H m = true
  | [], _, m, hm, _ => by simp at hm
  | x :: l, h, m, hm, ha => by
    simp only [okAll, Bool.and_eq_true] at h
    simp only [List.mem_cons] at hm
    rcases hm with rfl | hm
    · rw [ha] at h; exact h.1
    · exact okAll_mem h.2 m hm ha

theorem alloc_not_defer {o : Oper} {e : TypeId} (h : isAlloc o = some e) : o.op = .alloc e := by
  unfold isAlloc at h
  split at h
  · rename_i he; simp at h; subst h; exact he
  · cases h

theorem mov_not_defer {o : Oper} (h : isMov o = true) : ∀ c, o.op ≠ .defer c := by
  intro c hc
  simp [isMov, hc] at h

/-- The frame behind an operation of a region. -/
theorem region_frame {fr : Frame} {i : Nat} {l : List Nat} {ck : List Item} {o : Oper} (ht : fr.todo = .inRegion arr (i :: l) :: ck) (ho : arr[i]? = some o) (v : Value) :
    fr.finish v = { fr with tmps := (putC fr.tmps o.dst v), todo := .inRegion arr l :: ck } := finish_region ht ho v

/-- One movable operation, of a phase that has been gone through. -/
theorem mov_step (ok : EnvOk E) {ι : Ren} {σ : Nat → Nat} {H : AH} {w : World} {lo : Nat} {tm : T Value} {listed : Array Bool} (R : HRel E w0 ι σ H w) {fr : Frame} {cs : List Frame} {ck : List Item}
    (RR : RegRel ι σ lo H.next n ops t0 tm prev rest arr listed fr.tmps) (hm : fr.mode = .run)
    (hall : okAll E ops n (masks ops) (active (masks ops) prev rest.head?) t0 tm H (movOf ops 0) = true)
    {i : Nat} {l : List Nat} (hr : i ∈ Region.ready .any arr listed) (ht : fr.todo = .inRegion arr (i :: l) :: ck) {o : Oper} (ho : arr[i]? = some o) (hmov : isMov o = true) :
    ∃ ι' σ' tmps' w', Steps E.P (lone fr cs w) (lone { fr with tmps := tmps', todo := .inRegion arr l :: ck } cs w') ∧ Ext lo ι σ ι' σ' ∧ HRel E w0 ι' σ' H w' ∧
      RegRel ι' σ' lo H.next n ops t0 tm prev rest arr (listed.setIfInBounds i true) tmps' := by
  obtain ⟨hi, hf, hfree⟩ := ready_mem hr RR.lsz
  have hoi : ops[i]? = some o := by rw [RR.get]; exact ho
  obtain ⟨done, hc1, hc2, hc3, hc4⟩ := RR.chain
  have hact : active (masks ops) prev rest.head? i = true := by
    unfold active
    simp only [Bool.and_eq_true]
    constructor
    · cases hh : rest.head? with
      | none => rfl
      | some c =>
        simp only
        cases hp : pre (masks ops) c i with
        | false => rfl
        | true =>
          have h1 := pre_ahead RR.ops_ hp listed RR.down (.inr hfree)
          have h2 := hc4 c (List.mem_of_head? hh)
          rw [h1] at h2; cases h2
    · cases hh : prev with
      | none => rfl
      | some c =>
        simp only
        cases hp : pre (masks ops) i c with
        | false => rfl
        | true =>
          rw [hc2] at hh
          have h1 := pre_ahead RR.ops_ hp listed RR.down (.inl (hc3 c (List.mem_of_getLast? hh)))
          rw [hf] at h1; cases h1
  have hok := okAll_mem hall i (by have := mem_movOf ops 0 i o hoi hmov; simpa using this) hact
  have hrho := rho_rel RR hr
  have hd := mov_not_defer hmov
  unfold okMov at hok
  rw [getAll_eq, hoi] at hok
  simp only at hok
  cases ha : isAlloc o with
  | some e =>
    rw [ha] at hok
    simp only at hok
    split at hok <;> try (cases hok; done)
    rename_i d hdst hg
    split at hok <;> try (cases hok; done)
    rename_i b z htm hz
    cases hgb : H.m.get b with
    | none => rw [hgb] at hok; cases hok
    | some ob =>
      rw [hgb] at hok
      cases ob <;> try (cases hok; done)
      rename_i c e'
      simp only [Bool.and_eq_true] at hok
      have e1 := nbeq_eq hok.1
      have e2 := (vbeq_eq 1000).2 _ _ hok.2
      subst e1; subst e2
      obtain ⟨p1, p2, p3⟩ := RR.pend i o e' d ho ha hdst hf b 0 htm
      obtain ⟨hz1, hz2⟩ := zeroP_some hz
      obtain ⟨ι', σ', m1, m2, m3, m4⟩ := mat_rel R hgb p3 (ds := z.cells) (by rw [take_self rfl]; exact zero_cells hz2)
      have hop := alloc_not_defer ha
      have hw : Region.wanted o (yielded arr fr.tmps) = true := by simp [Region.wanted, hg]
      have hrun : (execOp fr.eval o).run E.P w = .ok (.value (.pointer (some ⟨w.heap.size, 0, none⟩))) (w.alloc (.cells z.cells e')) := by
        simp [execOp, hop, Instr.alloc, run_zer ok hz1, newVar, newRow]
      have hst := m_value (cs := cs) (m_oper hm ht ho hw (.inr hd)) hrun
      rw [region_frame ht ho] at hst
      refine ⟨ι', σ', _, _, hst, ⟨m1, fun x hx hn => m2 x (by omega) hn⟩, m4, RR.mov m1 hr ho hmov (fun d' hd' => ?_) (fun d' hd' => ?_) fun m o' e d' hne h1 h2 h3 h4 b' off h5 => ?_⟩
      · rw [hdst] at hd'; cases hd'
        rw [htm]
        simpa using VRel.ptr (σ := σ') (o := 0) m3
      · rw [hdst] at hd'; cases hd'
        rw [htm]; rfl
      · obtain ⟨_, _, q3⟩ := RR.pend m o' e d' h1 h2 h3 h4 b' off h5
        refine m2 b' (fun eb => hne ?_) q3
        subst eb
        exact RR.inj m i o' o e e' d' d h1 h2 h3 ho ha hdst h4 hf b' off 0 h5 htm
  | none =>
    rw [ha] at hok
    simp only at hok
    have hev : fr.eval = evC fr.tmps := evC_frame fr
    cases hwt : wantR ops n (rhoT ops (masks ops) i t0 tm) o with
    | none => rw [hwt] at hok; cases hok
    | some b =>
      rw [hwt] at hok
      have hw := want_rel hrho RR.tsz RR.ops_ hwt
      cases b with
      | true =>
        simp only at hok
        split at hok <;> try (cases hok; done)
        rename_i v H' hv
        simp only [Bool.and_eq_true] at hok
        have hH := mov_heap hmov ha hv (nbeq_eq hok.1)
        subst hH
        have hop := op_ok (w := w) ok R hrho o
        rw [hv] at hop
        obtain ⟨ι', σ', v', w', h1, h2, h3, h4, _⟩ := hop
        have hst := m_value (cs := cs) (m_oper hm ht ho hw (.inr hd)) (by rw [hev]; exact h1)
        rw [region_frame ht ho] at hst
        have RR' := RR.mov (ι' := ι') (σ' := σ') h2.1 hr ho hmov (v := v') (fun d hd' => by
          have := hok.2
          rw [hd'] at this
          rw [← (vbeq_eq 1000).1 _ _ this]; exact h4) (fun d hd' => by
          have := hok.2
          rw [hd'] at this
          exact vbeq_np this) (fun m o' e d' _ => mono_hi RR h2 m o' e d')
        have hlo : lo ≤ H'.next ∨ H'.next < lo := by omega
        refine ⟨ι', σ', _, w', hst, ?_, h3, RR'⟩
        refine ⟨h2.1, fun x hx hn => ?_⟩
        by_cases hxx : x < H'.next
        · exact h2.2 x hxx hn
        · exact h3.dom x (by omega)
      | false =>
        have hst := m_unwanted (w := w) (cs := cs) (P := E.P) hm ht ho hw
        rw [region_frame ht ho] at hst
        refine ⟨ι, σ, _, w, hst, Ext.refl _ _ _, R, RR.mov (Sub.refl _ _) hr ho hmov (fun d hd' => ?_) (fun d hd' => by simp only [hd'] at hok; exact vbeq_np hok) fun m o' e d' _ h1 h2 h3 h4 b off h5 => (RR.pend m o' e d' h1 h2 h3 h4 b off h5).2.2⟩
        simp only [hd'] at hok
        rw [← (vbeq_eq 1000).1 _ _ hok]; exact undef_rel

/-- All movable operations that come, till the next one of the chain, or the end. -/
theorem movs_run (ok : EnvOk E) {lo : Nat} {tm : T Value} {H : AH} {cs : List Frame} {ck : List Item}
    (hall : okAll E ops n (masks ops) (active (masks ops) prev rest.head?) t0 tm H (movOf ops 0) = true) :
    ∀ (k : Nat) (ι : Ren) (σ : Nat → Nat) (w : World) (fr : Frame) (listed : Array Bool) (fuel t : Nat), unlisted listed ≤ k → unlisted listed ≤ fuel → HRel E w0 ι σ H w → fr.mode = .run →
      RegRel ι σ lo H.next n ops t0 tm prev rest arr listed fr.tmps → fr.todo = .inRegion arr (Region.linearise.go .any arr fuel t listed []) :: ck →
      ∃ ι' σ' w' tmps' todo', Steps E.P (lone fr cs w) (lone { fr with tmps := tmps', todo := todo' } cs w') ∧ Ext lo ι σ ι' σ' ∧ HRel E w0 ι' σ' H w' ∧
        ((rest = [] ∧ todo' = .inRegion arr [] :: ck ∧ TmRel ι' σ' n tm tmps') ∨
         ∃ i rest' listed' fuel' t', rest = i :: rest' ∧ i ∈ Region.ready .any arr listed' ∧ unlisted (listed'.setIfInBounds i true) ≤ fuel' ∧
           todo' = .inRegion arr (i :: Region.linearise.go .any arr fuel' t' (listed'.setIfInBounds i true) []) :: ck ∧ RegRel ι' σ' lo H.next n ops t0 tm prev rest arr listed' tmps') := by
  intro k
  induction k with
  | zero =>
    intro ι σ w fr listed fuel t hk hf R hm RR ht
    obtain ⟨hback, _⟩ := RR.parts
    rcases go_cases RR.ops_ hback RR.lsz hf (t := t) with ⟨hgo, hallL⟩ | ⟨i, f', t', hr, _, _⟩
    · refine ⟨ι, σ, w, fr.tmps, .inRegion arr [] :: ck, ?_, Ext.refl _ _ _, R, .inl ⟨?_, rfl, RR.tsz, fun t => ?_⟩⟩
      · rw [hgo] at ht; rw [← ht]; exact Steps.refl _ _
      · obtain ⟨done, h1, h2, h3, h4⟩ := RR.chain
        cases rest with
        | nil => rfl
        | cons c rest =>
          have hcl := h4 c (by simp)
          have : c < listed.size := by
            rcases Nat.lt_or_ge c listed.size with h | h
            · exact h
            · rw [Array.getElem?_eq_none h] at hcl; cases hcl
          rw [hallL c (by rw [← RR.lsz]; exact this)] at hcl; cases hcl
      · cases hw : writer ops t with
        | none => exact (RR.out t hw).2
        | some j =>
          obtain ⟨j', o', h1, h2, _⟩ := writerGo_some ops t 0 j hw
          have hj' : j = j' := by omega
          subst hj'
          rw [RR.get] at h2
          obtain ⟨h, _⟩ := Array.getElem?_eq_some_iff.1 h2
          exact RR.new t j hw (hallL j h)
    · have := unlisted_set (ready_mem hr RR.lsz).2.1
      omega
  | succ k ih =>
    intro ι σ w fr listed fuel t hk hf R hm RR ht
    obtain ⟨hback, _, hlink, _, _⟩ := RR.parts
    rcases go_cases RR.ops_ hback RR.lsz hf (t := t) with ⟨hgo, hallL⟩ | ⟨i, f', t', hr, hgo, hf'⟩
    · refine ⟨ι, σ, w, fr.tmps, .inRegion arr [] :: ck, ?_, Ext.refl _ _ _, R, .inl ⟨?_, rfl, RR.tsz, fun t => ?_⟩⟩
      · rw [hgo] at ht; rw [← ht]; exact Steps.refl _ _
      · obtain ⟨done, h1, h2, h3, h4⟩ := RR.chain
        cases rest with
        | nil => rfl
        | cons c rest =>
          have hcl := h4 c (by simp)
          have : c < listed.size := by
            rcases Nat.lt_or_ge c listed.size with h | h
            · exact h
            · rw [Array.getElem?_eq_none h] at hcl; cases hcl
          rw [hallL c (by rw [← RR.lsz]; exact this)] at hcl; cases hcl
      · cases hw : writer ops t with
        | none => exact (RR.out t hw).2
        | some j =>
          obtain ⟨j', o', h1, h2, _⟩ := writerGo_some ops t 0 j hw
          have hj' : j = j' := by omega
          subst hj'
          rw [RR.get] at h2
          obtain ⟨h, _⟩ := Array.getElem?_eq_some_iff.1 h2
          exact RR.new t j hw (hallL j h)
    · obtain ⟨hi, hlf, hfree⟩ := ready_mem hr RR.lsz
      rw [hgo] at ht
      have ho : arr[i]? = some arr[i] := Array.getElem?_eq_getElem hi
      cases hmov : isMov arr[i] with
      | true =>
        obtain ⟨ι1, σ1, tmps1, w1, s1, e1, R1, RR1⟩ := mov_step ok (cs := cs) R RR hm hall hr ht ho hmov
        have hu := unlisted_set hlf
        obtain ⟨ι2, σ2, w2, tmps2, todo2, s2, e2, R2, h2⟩ := ih ι1 σ1 w1 { fr with tmps := tmps1, todo := .inRegion arr (Region.linearise.go .any arr f' t' (listed.setIfInBounds i true) []) :: ck }
          (listed.setIfInBounds i true) f' t' (by omega) hf' R1 hm RR1 rfl
        exact ⟨ι2, σ2, w2, tmps2, todo2, s1.trans s2, e1.trans e2, R2, h2⟩
      | false =>
        -- the next one of the chain
        obtain ⟨done, h1, h2, h3, h4⟩ := RR.chain
        have hoi : ops[i]? = some arr[i] := by rw [RR.get]; exact ho
        have hmem : i ∈ chainOf ops 0 := (mem_chainOf ops 0 i).2 ⟨i, arr[i], by omega, hoi, hmov⟩
        rw [h1] at hmem
        have hir : i ∈ rest := by
          rcases List.mem_append.1 hmem with h | h
          · have := h3 i h; rw [hlf] at this; cases this
          · exact h
        obtain ⟨p, q, hpq⟩ := List.append_of_mem hir
        have hp : p = [] := by
          cases hpl : p.getLast? with
          | none => simpa using hpl
          | some c =>
            exfalso
            obtain ⟨p', rfl⟩ := List.getLast?_eq_some_iff.1 hpl
            have hpre := linked_pre (chainOf ops 0) hlink (done ++ p') c i q (by rw [h1, hpq]; simp)
            have hcl := pre_ahead RR.ops_ hpre listed RR.down (.inr hfree)
            have := h4 c (by rw [hpq]; simp)
            rw [hcl] at this; cases this
        subst hp
        simp only [List.nil_append] at hpq
        refine ⟨ι, σ, w, fr.tmps, fr.todo, Steps.refl _ _, Ext.refl _ _ _, R, .inr ⟨i, q, listed, f', t', hpq, hr, hf', ht, RR⟩⟩

/-- A block is promised. -/
theorem RegRel.promise {ι : Ren} {σ : Nat → Nat} {H H' : AH} {w : World} {lo : Nat} {tm : T Value} {listed : Array Bool} {tmps : Array Value} (R : HRel E w0 ι σ H w)
    (RR : RegRel ι σ lo H.next n ops t0 tm prev rest arr listed tmps) (hlo : lo ≤ H.next) {m : Nat} {o : Oper} {e : TypeId} {d : Tmp} {cs : List Value} {a : Addr} (ho : ops[m]? = some o) (hal : isAlloc o = some e)
    (hd : o.dst = some d) (hp : isPoison (tget tm d) = true) (ha : allocCells H e cs = some (a, H')) :
    HRel E w0 ι σ H' w ∧ RegRel ι σ lo H'.next n ops t0 (tm.set d (.pointer (some a))) prev rest arr listed tmps ∧ H.next ≤ H'.next := by
  obtain ⟨_, hdist, _, hdn, hn⟩ := RR.parts
  have hdl : d ≤ 100000 := Nat.le_trans (Nat.le_of_lt (hdn o (List.mem_of_getElem? ho) d hd)) hn
  have hmov : isMov o = true := by simp [isMov, alloc_not_defer hal]
  have hoa : arr[m]? = some o := by rw [← RR.get]; exact ho
  have hget : ∀ t, t ≠ d → tget (tm.set d (.pointer (some a))) t = tget tm t := fun t ht => by unfold tget; rw [T.get_set_other _ _ _ _ ht]
  have hself : tget (tm.set d (.pointer (some a))) d = .pointer (some a) := by unfold tget; rw [T.get_set_same _ _ _ hdl]
  have huniq : ∀ (j : Nat) (o' : Oper), arr[j]? = some o' → o'.dst = some d → j = m := fun j o' h1 h2 =>
    distinct_spec _ hdist j m d (by rw [List.getElem?_map, RR.get, h1]; simp [h2]) (by simp [ho, hd])
  unfold allocCells alloc at ha
  cases hb : Nat.ble H.next 100000 with
  | false => rw [hb] at ha; simp at ha
  | true =>
    rw [hb] at ha
    simp only [Option.some.injEq, Prod.mk.injEq] at ha
    obtain ⟨rfl, rfl⟩ := ha
    have hle := nble_le hb
    have hιn : ι H.next = none := R.dom _ (Nat.le_refl _)
    have hg : ∀ b ob, (H.m.set H.next (.cells cs e)).get b = some ob → ∀ x, ι b = some x → H.m.get b = some ob := fun b ob h x hx => by
      have : b ≠ H.next := fun eb => by rw [eb, hιn] at hx; cases hx
      rw [T.get_set_other _ _ _ _ this] at h; exact h
    refine ⟨⟨fun b ob h x hx => R.blk b ob (hg b ob h x hx) x hx, fun b b' o1 o2 h1 h2 x x' hx hx' => R.inj b b' o1 o2 (hg b o1 h1 x hx) (hg b' o2 h2 x' hx') x x' hx hx', R.rng, R.siz,
      fun b hb' => R.dom b (by simp only at hb'; omega), fun b ob h => ?_, R.glob, R.new, R.old, R.size, R.tape, R.os, R.out⟩, ?_, Nat.le_succ _⟩
    · simp only at h ⊢
      by_cases eb : b = H.next
      · omega
      · rw [T.get_set_other _ _ _ _ eb] at h; have := R.live b ob h; omega
    · refine ⟨RR.ops_, RR.ok, RR.lsz, RR.down, RR.chain, RR.tsz, fun t hw => ?_, RR.old, fun t j hw hj => ?_, fun j o' d' h1 h2 h3 h4 => ?_, fun m' o' e' d' h1 h2 h3 h4 b off h5 => ?_,
        fun m1 m2 o1 o2 e1 e2 d1 d2 h1 h2 h3 h4 h5 h6 h7 h8 b off off' h9 h10 => ?_⟩
      · have : t ≠ d := fun et => by subst et; exact writerGo_none ops t 0 hw m o ho hd
        rw [hget t this]; exact RR.out t hw
      · by_cases et : t = d
        · subst et
          have := writer_unique hdist hw ho hd
          subst this
          have := RR.np m o t hoa hmov hd hj
          rw [hp] at this; cases this
        · rw [hget t et]; exact RR.new t j hw hj
      · by_cases et : d' = d
        · subst et; rw [hself]; rfl
        · rw [hget _ et]; exact RR.np j o' d' h1 h2 h3 h4
      · by_cases et : d' = d
        · subst et
          rw [hself] at h5
          simp at h5
          obtain ⟨rfl, _⟩ := h5
          exact ⟨hlo, Nat.lt_succ_self _, hιn⟩
        · rw [hget _ et] at h5
          obtain ⟨a1, a2, a3⟩ := RR.pend m' o' e' d' h1 h2 h3 h4 b off h5
          exact ⟨a1, Nat.lt_succ_of_lt a2, a3⟩
      · by_cases et1 : d1 = d
        · by_cases et2 : d2 = d
          · subst et1; subst et2
            rw [huniq m1 o1 h1 h3, huniq m2 o2 h4 h6]
          · subst et1
            rw [hself] at h9
            simp at h9
            obtain ⟨rfl, _⟩ := h9
            rw [hget _ et2] at h10
            have := (RR.pend m2 o2 e2 d2 h4 h5 h6 h8 _ off' h10).2.1
            omega
        · by_cases et2 : d2 = d
          · subst et2
            rw [hself] at h10
            simp at h10
            obtain ⟨rfl, _⟩ := h10
            rw [hget _ et1] at h9
            have := (RR.pend m1 o1 e1 d1 h1 h2 h3 h7 _ off h9).2.1
            omega
          · rw [hget _ et1] at h9
            rw [hget _ et2] at h10
            exact RR.inj m1 m2 o1 o2 e1 e2 d1 d2 h1 h2 h3 h4 h5 h6 h7 h8 b off off' h9 h10

/-- A value is guessed. -/
theorem RegRel.guess {ι : Ren} {σ : Nat → Nat} {lo hi : Nat} {tm : T Value} {listed : Array Bool} {tmps : Array Value}
    (RR : RegRel ι σ lo hi n ops t0 tm prev rest arr listed tmps) {m : Nat} {o : Oper} {d : Tmp} {v : Value} (ho : ops[m]? = some o) (hmov : isMov o = true) (hal : isAlloc o = none)
    (hd : o.dst = some d) (hp : isPoison (tget tm d) = true) : RegRel ι σ lo hi n ops t0 (tm.set d v) prev rest arr listed tmps := by
  obtain ⟨_, hdist, _, hdn, hn⟩ := RR.parts
  have hoa : arr[m]? = some o := by rw [← RR.get]; exact ho
  have hget : ∀ t, t ≠ d → tget (tm.set d v) t = tget tm t := fun t ht => by unfold tget; rw [T.get_set_other _ _ _ _ ht]
  have huniq : ∀ (j : Nat) (o' : Oper), arr[j]? = some o' → o'.dst = some d → j = m := fun j o' h1 h2 =>
    distinct_spec _ hdist j m d (by rw [List.getElem?_map, RR.get, h1]; simp [h2]) (by simp [ho, hd])
  have hne : ∀ (m' : Nat) (o' : Oper) (e' : TypeId) (d' : Tmp), arr[m']? = some o' → isAlloc o' = some e' → o'.dst = some d' → d' ≠ d := fun m' o' e' d' h1 h2 h3 et => by
    subst et
    have := huniq m' o' h1 h3
    subst this
    rw [hoa] at h1; cases h1
    rw [hal] at h2; cases h2
  refine ⟨RR.ops_, RR.ok, RR.lsz, RR.down, RR.chain, RR.tsz, fun t hw => ?_, RR.old, fun t j hw hj => ?_, fun j o' d' h1 h2 h3 h4 => ?_, fun m' o' e' d' h1 h2 h3 h4 b off h5 => ?_,
    fun m1 m2 o1 o2 e1 e2 d1 d2 h1 h2 h3 h4 h5 h6 h7 h8 b off off' h9 h10 => ?_⟩
  · have : t ≠ d := fun et => by subst et; exact writerGo_none ops t 0 hw m o ho hd
    rw [hget t this]; exact RR.out t hw
  · by_cases et : t = d
    · subst et
      have := writer_unique hdist hw ho hd
      subst this
      have := RR.np m o t hoa hmov hd hj
      rw [hp] at this; cases this
    · rw [hget t et]; exact RR.new t j hw hj
  · by_cases et : d' = d
    · subst et
      have := huniq j o' h1 h3
      subst this
      rw [hoa] at h1; cases h1
      have := RR.np j o d' hoa hmov hd h4
      rw [hp] at this; cases this
    · rw [hget _ et]; exact RR.np j o' d' h1 h2 h3 h4
  · rw [hget _ (hne m' o' e' d' h1 h2 h3)] at h5
    exact RR.pend m' o' e' d' h1 h2 h3 h4 b off h5
  · rw [hget _ (hne m1 o1 e1 d1 h1 h2 h3)] at h9
    rw [hget _ (hne m2 o2 e2 d2 h4 h5 h6)] at h10
    exact RR.inj m1 m2 o1 o2 e1 e2 d1 d2 h1 h2 h3 h4 h5 h6 h7 h8 b off off' h9 h10

theorem movOf_mov : ∀ (os : List Oper) (k c : Nat), c ∈ movOf os k → ∃ i o, c = k + i ∧ os[i]? = some o ∧ isMov o = true
  | [], k, c, h => by simp [movOf] at h
  | o :: os, k, c, h => by
    simp only [movOf] at h
    cases hm : isMov o with
    | true =>
      rw [hm] at h
      simp only [List.mem_cons] at h
      rcases h with rfl | h
      · exact ⟨0, o, by omega, by simp, hm⟩
      · obtain ⟨i, o', h1, h2, h3⟩ := movOf_mov os (k + 1) c h
        exact ⟨i + 1, o', by omega, by simpa using h2, h3⟩
    | false =>
      rw [hm] at h
      obtain ⟨i, o', h1, h2, h3⟩ := movOf_mov os (k + 1) c h
      exact ⟨i + 1, o', by omega, by simpa using h2, h3⟩

theorem pass1_rel {ι : Ren} {σ : Nat → Nat} {w : World} {lo : Nat} {listed : Array Bool} {tmps : Array Value} {act : Nat → Bool} : ∀ (l : List Nat) (tm : T Value) (H : AH) (tm' : T Value) (H' : AH),
    pass1 E ops act l tm H = some (tm', H') → HRel E w0 ι σ H w → RegRel ι σ lo H.next n ops t0 tm prev rest arr listed tmps → lo ≤ H.next →
    HRel E w0 ι σ H' w ∧ RegRel ι σ lo H'.next n ops t0 tm' prev rest arr listed tmps ∧ H.next ≤ H'.next
  | [], tm, H, tm', H', h, R, RR, _ => by simp [pass1] at h; obtain ⟨rfl, rfl⟩ := h; exact ⟨R, RR, Nat.le_refl _⟩
  | m :: l, tm, H, tm', H', h, R, RR, hlo => by
    simp only [pass1, getAll_eq] at h
    cases ho : ops[m]? with
    | none => rw [ho] at h; cases h
    | some o =>
      rw [ho] at h
      simp only at h
      split at h
      · rename_i e d hact hal hd
        cases hp : isPoison (tget tm d) with
        | false => rw [hp] at h; exact pass1_rel l tm H tm' H' h R RR hlo
        | true =>
          rw [hp] at h
          simp only at h
          split at h <;> try (cases h; done)
          split at h <;> try (cases h; done)
          rename_i hac
          obtain ⟨R1, RR1, hle⟩ := RR.promise R hlo ho hal hd hp hac
          obtain ⟨R2, RR2, hle2⟩ := pass1_rel l _ _ tm' H' h R1 RR1 (Nat.le_trans hlo hle)
          exact ⟨R2, RR2, Nat.le_trans hle hle2⟩
      · exact pass1_rel l tm H tm' H' h R RR hlo

theorem pass2_rel {ι : Ren} {σ : Nat → Nat} {lo hi : Nat} {listed : Array Bool} {tmps : Array Value} {act : Nat → Bool} {H : AH} {ms : List Nat} : ∀ (l : List Nat) (tm tm' : T Value),
    (∀ c ∈ l, ∃ o, ops[c]? = some o ∧ isMov o = true) → pass2 E ops n ms act t0 H l tm = some tm' → RegRel ι σ lo hi n ops t0 tm prev rest arr listed tmps →
    RegRel ι σ lo hi n ops t0 tm' prev rest arr listed tmps
  | [], tm, tm', _, h, RR => by simp [pass2] at h; subst h; exact RR
  | m :: l, tm, tm', hm, h, RR => by
    simp only [pass2, getAll_eq] at h
    obtain ⟨o, ho, hmov⟩ := hm m (by simp)
    have hm' : ∀ c ∈ l, ∃ o, ops[c]? = some o ∧ isMov o = true := fun c hc => hm c (by simp [hc])
    rw [ho] at h
    simp only at h
    split at h
    · rename_i d hact hal hd
      cases hp : isPoison (tget tm d) with
      | false => rw [hp] at h; exact pass2_rel l tm tm' hm' h RR
      | true =>
        rw [hp] at h
        simp only at h
        split at h <;> try (cases h; done)
        · split at h <;> try (cases h; done)
          exact pass2_rel l _ tm' hm' h (RR.guess ho hmov hal hd hp)
        · exact pass2_rel l _ tm' hm' h (RR.guess ho hmov hal hd hp)
    · exact pass2_rel l tm tm' hm' h RR
end reg
end Go.Ex

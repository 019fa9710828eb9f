/- Operations side by side, the seventh part: append. -/
import Derived.Test.YtpnfkkoflppkhaaGreatDoorExOps6
noncomputable section
namespace Go.Ex

section ops
variable {E : Env} {w0 w : World} {ι : Ren} {σ : Nat → Nat} {H : AH} {r : Nat → Value} {tmps : Array Value}

theorem append_room (ok : EnvOk E) {ts : Array TypeId} {t st xt elem : TypeId} {xd : TypeDesc} {args : Array Value} {base : Option Addr} {len cap n size : Nat} {x : Value} {new : Array Value}
    (h0 : ts[0]? = some st) (h1 : ts[1]? = some xt) (hd : E.und.get st = some (.slice elem)) (hx : E.und.get xt = some xd) (hni : notInt xd = true) (hs : sizT E elem = some size)
    (ha : args[0]? = some (.slice base len cap)) (hb : args[1]? = some x) (hl : (Builtin.lenOf x).run E.P w = .ok n w) (hn : (Builtin.firstCells size n x).run E.P w = .ok new w) (hle : len + n ≤ cap) :
    (Builtin.append_ ts t args).run E.P w = ((match base with | some a => storeCells (a.add (len * size)) new.toList | none => pure () : Sem Unit).run E.P w).andThen fun _ w2 => .ok (.slice base (len + n) cap) w2 := by
  have ux := run_und (w := w) ok hx
  unfold Builtin.append_
  cases xd <;> first
    | (cases hni; done)
    | (simp only [h0, ha, hb, h1, Sem.run_bind, run_und ok hd, ux, Result.andThen_ok, run_siz ok hs, Sem.run_pure, Bool.false_eq_true, if_false, hl, hle, if_true, Bool.not_false, hn]
       cases base <;> simp)

theorem append_grow (ok : EnvOk E) {ts : Array TypeId} {t st xt elem : TypeId} {xd : TypeDesc} {args : Array Value} {base : Option Addr} {len cap n : Nat} {x z : Value} {info : TypeInfo}
    (h0 : ts[0]? = some st) (h1 : ts[1]? = some xt) (hd : E.und.get st = some (.slice elem)) (hx : E.und.get xt = some xd) (hni : notInt xd = true) (hi : E.inf.get elem = some info)
    (hz : info.zero = some z) (hby : info.bytes ≤ 4096) (ha : args[0]? = some (.slice base len cap)) (hb : args[1]? = some x) (hl : (Builtin.lenOf x).run E.P w = .ok n w) (hle : cap < len + n) (hsm : len + n ≤ 1000000)
    {old new : Array Value} (ho : (Builtin.firstCells info.size len (.slice base len cap)).run E.P w.drew = .ok old w.drew) (hn : (Builtin.firstCells info.size n x).run E.P w.drew = .ok new w.drew) :
    ∃ newCap, len + n ≤ newCap ∧ (Builtin.append_ ts t args).run E.P w = .ok (.slice (some ⟨w.heap.size, 0, none⟩) (len + n) newCap) (w.drew.alloc (.cells (old ++ new ++ Builtin.zeroCells z.cells (newCap - (len + n))) elem)) := by
  have ux := run_und (w := w) ok hx
  have hs : sizT E elem = some info.size := by simp [sizT, hi]
  have hzr : zerT E elem = some z := by simp [zerT, hi, hz]
  have hc := nextcap_le hle
  have h2 : ¬ (Builtin.nextslicecap (len + n) cap * info.bytes > 2 ^ 48) := by
    have : Builtin.nextslicecap (len + n) cap * info.bytes ≤ (2 * (len + n) + 768) * 4096 := Nat.mul_le_mul hc hby
    omega
  have h3 : ¬ (((len + n : Nat) : Int) > IntKind.i64.max ∧ (False ∨ info.bytes = 0)) := by
    have e : IntKind.i64.max = 9223372036854775807 := rfl
    rw [e]; omega
  refine ⟨(Question.appendCap (len + n) cap elem).cut (w.tape w.drawn (.appendCap (len + n) cap elem)), ?_, ?_⟩
  rotate_left
  · unfold Builtin.append_
    cases xd <;> first
      | (cases hni; done)
      | (simp only [h0, ha, hb, h1, Sem.run_bind, run_und ok hd, ux, Result.andThen_ok, run_siz ok hs, Sem.run_pure, Bool.false_eq_true, if_false, hl, Nat.not_le.2 hle, run_inf ok hi, h2, h3,
          run_choose, Question.forced, World.drew_eq, run_askRoom, ho, Bool.not_false, if_true, hn, run_zer ok hzr, newRow, run_newObj, World.alloc_eq, World.size_drew])
  · simp only [Question.cut]; omega

theorem lenOf_run {P : Program} {x x' : Value} {vs : List Value} {n size : Nat} (h : appNew H size x = some (vs, n)) (hx : VRel ι σ x x') (w : World) : (Builtin.lenOf x').run P w = .ok n w := by
  unfold appNew at h
  split at h <;> try (cases h; done)
  · rename_i a m c
    cases hv : vals (.slice a m c) (m * size) H with
    | none => simp only [hv] at h; cases h
    | some vs' =>
      simp only [hv, Option.some.injEq, Prod.mk.injEq] at h
      obtain ⟨_, rfl⟩ := h
      cases hx <;> simp [Builtin.lenOf]
  · rename_i s
    cases hb : Nat.beq size 1 with
    | false => simp only [hb] at h; cases h
    | true =>
      simp only [hb, Option.some.injEq, Prod.mk.injEq] at h
      obtain ⟨_, rfl⟩ := h
      cases hx; simp [Builtin.lenOf]

theorem new_run {P : Program} {w : World} (R : HRel E w0 ι σ H w) {x x' : Value} {vs : List Value} {n size : Nat} (h : appNew H size x = some (vs, n)) (hx : VRel ι σ x x') :
    ∃ vs' : List Value, (Builtin.firstCells size n x').run P w = .ok vs'.toArray w ∧ VsRel ι σ vs vs' ∧ vs'.length = n * size := by
  unfold appNew at h
  split at h <;> try (cases h; done)
  · rename_i a m c
    cases hv : vals (.slice a m c) (m * size) H with
    | none => simp only [hv] at h; cases h
    | some vs' =>
      simp only [hv, Option.some.injEq, Prod.mk.injEq] at h
      obtain ⟨rfl, rfl⟩ := h
      exact vals_rel R hv hx
  · rename_i s
    cases hb : Nat.beq size 1 with
    | false => simp only [hb] at h; cases h
    | true =>
      simp only [hb, Option.some.injEq, Prod.mk.injEq] at h
      obtain ⟨rfl, rfl⟩ := h
      cases hx
      have := nbeq_eq hb
      subst this
      have he : s.extract 0 s.size = s := by
        apply ByteArray.ext
        rw [ByteArray.data_extract]
        show s.data.extract 0 s.data.size = s.data
        simp
      refine ⟨s.data.toList.map fun b => .int .u8 b.toNat, ?_, plains_refl (bytes_plain _), by simp⟩
      show Result.ok ((s.extract 0 s.size).data.map fun b => Value.int .u8 b.toNat) w = _
      rw [he]
      congr 1
      apply Array.toList_inj.1
      simp

theorem sliceU_inv {b o len cap : Nat} {s' : Value} (h : VRel ι σ (.slice (some ⟨b, o, none⟩) len cap) s') (hc : capU ≤ cap) :
    ∃ cb co es cap', s' = .slice (some ⟨cb, co + o, none⟩) len cap' ∧ ι b = some (cb, co) ∧ cap = capU + es ∧ len ≤ cap' ∧ co + o + cap' * es ≤ σ cb := by
  cases h with
  | slice h hc' => omega
  | sliceU h hl hs => exact ⟨_, _, _, _, rfl, h, rfl, hl, hs⟩

theorem grow_ok (R : HRel E w0 ι σ H w) {elem size need : Nat} {cs : List Value} {v : Value} {H1 H' : AH} (h : appGrow H1 elem size cs need = some (v, H')) (hn : H1.next = H.next)
    (hg : ∀ b o, H1.m.get b = some o → H.m.get b = some o) {ds : Array Value} {cap : Nat}
    (hd : VsRel ι σ cs (ds.toList.take cs.length)) (hle : need ≤ cap) (hsz : cap * size ≤ ds.size) {s : Result Next}
    (hs : s = .ok (.value (.slice (some ⟨w.heap.size, 0, none⟩) need cap)) (w.drew.alloc (.cells ds elem))) : ResOk E w0 ι σ H w (.val v H') s := by
  unfold appGrow at h
  cases ha : allocCells H1 elem cs with
  | none => rw [ha] at h; cases h
  | some p =>
    obtain ⟨a, H2⟩ := p
    rw [ha] at h
    simp only [Option.some.injEq, Prod.mk.injEq] at h
    obtain ⟨rfl, rfl⟩ := h
    have R1 : HRel E w0 ι σ H1 w.drew := by
      have R0 := drew_rel R
      exact ⟨fun b o hb => R0.blk b o (hg b o hb), fun b b' o o' hb hb' => R0.inj b b' o o' (hg b o hb) (hg b' o' hb'), R0.rng, R0.siz, fun b hb => R0.dom b (hn ▸ hb),
        fun b o hb => hn ▸ R0.live b o (hg b o hb), R0.glob, R0.new, R0.old, R0.size, R0.tape, R0.os, R0.out⟩
    have := ResOk.newSlice (H := H1) R1 ha hd (len := need) (cap := capU + size) (cap' := cap) (.inr ⟨size, rfl, hle, hsz⟩) w.drew R1 rfl (s := s) hs
    obtain ⟨ι', σ', v', w', e1, e2, e3, e4, e5⟩ := this
    exact ⟨ι', σ', v', w', e1, hn ▸ e2, e3, e4, hn ▸ e5⟩

theorem zeroCells_size (z : Array Value) (n : Nat) : (Builtin.zeroCells z n).size = n * z.size := by simp [Builtin.zeroCells]

theorem append_ok (ok : EnvOk E) (R : HRel E w0 ι σ H w) (ts : Array TypeId) (t : TypeId) {s s' x x' : Value} (hs : VRel ι σ s s') (hx : VRel ι σ x x') {rest' : List Value} (args' : Array Value)
    (ha : args'.toList = s' :: x' :: rest') :
    ResOk E w0 ι σ H w (valH (appendV E H ts s x)) ((do pure (.value (← Builtin.append_ ts t args')) : Sem Next).run E.P w) := by
  unfold appendV
  split
  rotate_left
  · trivial
  rename_i st xt ts' hts
  have h0 : ts[0]? = some st := by
    have : ts.toList[0]? = some st := by rw [hts]; rfl
    simpa using this
  have h1 : ts[1]? = some xt := by
    have : ts.toList[1]? = some xt := by rw [hts]; rfl
    simpa using this
  have a0 : args'[0]? = some s' := by
    have : args'.toList[0]? = some s' := by rw [ha]; rfl
    simpa using this
  have a1 : args'[1]? = some x' := by
    have : args'.toList[1]? = some x' := by rw [ha]; rfl
    simpa using this
  split
  rotate_left
  · trivial
  rename_i elem xd hd hxd
  split
  rotate_left
  · trivial
  rename_i info hni hi
  unfold appendT
  split
  rotate_left
  · trivial
  rename_i vs n base len cap hok hnew
  have hsi : sizT E elem = some info.size := by simp [sizT, hi]
  have hlen := lenOf_run (P := E.P) hnew hx w
  simp only [appOk, Bool.and_eq_true] at hok
  obtain ⟨⟨k1, k2⟩, k3⟩ := hok
  have k1 := nble_le k1
  have k2 := nble_le k2
  cases hz : info.zero with
  | none => rw [hz] at k3; cases k3
  | some z =>
  rw [hz] at k3
  have k3 := nbeq_eq k3
  have hz0 : z.cells.size = info.size := by rw [← k3]; simp
  obtain ⟨vs', hv1, hv2, hv3⟩ := new_run (P := E.P) R hnew hx
  have hvl := hv2.l2.length
  cases hn0 : Nat.beq n 0 with
  | true =>
    have := nbeq_eq hn0
    subst this
    simp only
    cases hlc : Nat.ble len cap with
    | false => trivial
    | true =>
      have hlc := nble_le hlc
      simp only [valH]
      have e0 : vs' = [] := List.length_eq_zero_iff.1 (by simpa using hv3)
      subst e0
      -- the machine's slice
      have key : ∀ base' cap', s' = .slice base' len cap' → len ≤ cap' → ((do pure (.value (← Builtin.append_ ts t args')) : Sem Next).run E.P w) = .ok (.value s') w := by
        rintro base' cap' rfl hle
        have := append_room (t := t) ok h0 h1 hd hxd hni hsi a0 a1 hlen hv1 (by omega)
        rw [Sem.run_bind, this]
        cases base' <;> simp [storeCells]
      refine ResOk.val_same R (v' := s') ?_ hs
      cases hs with
      | nilsl => exact key _ _ rfl (by omega)
      | empty a c => exact key _ _ rfl (by omega)
      | slice hι hc => exact key _ _ rfl hlc
      | sliceU hι hl hc => exact key _ _ rfl hl
  | false =>
    have hnz := nbeq_ne hn0
    simp only
    cases hbig : (Nat.ble (len + n) 1000000 && vs.all cellV) with
    | false => trivial
    | true =>
      simp only [Bool.and_eq_true] at hbig
      have hbig1 := nble_le hbig.1
      have hcell := hbig.2
      simp only
      unfold appTo
      split
      · -- nil
        cases hb : (Nat.beq len 0 && Nat.beq cap 0) with
        | false => trivial
        | true =>
          simp only [Bool.and_eq_true] at hb
          have e1 := nbeq_eq hb.1
          have e2 := nbeq_eq hb.2
          subst e1; subst e2
          simp only
          cases hgr : appGrow H elem info.size vs n with
          | none => trivial
          | some p =>
            obtain ⟨v, H'⟩ := p
            simp only [valH]
            cases hs
            obtain ⟨vs2, hw1, hw2, hw3⟩ := new_run (P := E.P) (drew_rel R) hnew hx
            obtain ⟨nc, hnc, hrun⟩ := append_grow (t := t) ok h0 h1 hd hxd hni hi hz k1 a0 a1 hlen (by omega) hbig1 (old := #[]) (by simp [Builtin.firstCells]) hw1
            have hl2 := hw2.l2.length
            refine grow_ok R hgr rfl (fun _ _ h => h) (ds := #[] ++ vs2.toArray ++ Builtin.zeroCells z.cells (nc - (0 + n))) (cap := nc) ?_ (by omega) ?_ (by rw [Sem.run_bind, hrun]; simp)
            · rw [hl2]
              have e : (#[] ++ vs2.toArray ++ Builtin.zeroCells z.cells (nc - (0 + n))).toList.take vs2.length = vs2 := by
                simp only [Array.toList_append, List.nil_append]
                rw [List.take_append_of_le_length (Nat.le_refl _), List.take_length]
              rw [e]; exact hw2
            · simp only [Array.size_append, zeroCells_size, hz0, List.size_toArray, hw3]
              have : n * info.size + (nc - (0 + n)) * info.size = nc * info.size := by rw [← Nat.add_mul]; congr 1; omega
              omega
      · -- a block
        rename_i b o
        cases hU : Nat.ble capU cap with
        | false =>
          have hcap := nble_lt hU
          simp only
          unfold appExact
          cases hs
          rotate_left
          · omega
          rename_i cb co hι _
          cases hroom : Nat.ble (len + n) cap with
          | true =>
            have hroom := nble_le hroom
            simp only
            cases hp : putCells E H b (o + len * info.size) vs with
            | none => trivial
            | some H' =>
              simp only [valH]
              obtain ⟨w', hst, R'⟩ := putCells_rel (P := E.P) R hp hι hv2
              have hrun := append_room (t := t) ok h0 h1 hd hxd hni hsi a0 a1 hlen hv1 hroom
              simp only [Addr.add_none] at hrun
              rw [show co + o + len * info.size = co + (o + len * info.size) by omega, hst] at hrun
              have hnext : H'.next = H.next := by
                unfold putCells at hp
                split at hp <;> try (cases hp; done)
                split at hp <;> try (cases hp; done)
                split at hp <;> try (cases hp; done)
                cases hp; rfl
              exact ⟨ι, σ, _, w', by rw [Sem.run_bind, hrun]; rfl, Ext.refl _ _ _, R', .slice hι hcap, by rw [hnext]; exact Nat.le_refl _⟩
          | false =>
            have hroom := nble_lt hroom
            simp only
            cases hv : vals (.slice (some ⟨b, o, none⟩) len cap) (len * info.size) H with
            | none => trivial
            | some old =>
              simp only
              cases hgr : appGrow H elem info.size (old ++ vs) (len + n) with
              | none => trivial
              | some p =>
                obtain ⟨v, H'⟩ := p
                simp only [valH]
                obtain ⟨old', ho1, ho2, ho3⟩ := vals_rel (P := E.P) (drew_rel R) hv (.slice hι hcap)
                obtain ⟨vs2, hw1, hw2, hw3⟩ := new_run (P := E.P) (drew_rel R) hnew hx
                obtain ⟨nc, hnc, hrun⟩ := append_grow (t := t) ok h0 h1 hd hxd hni hi hz k1 a0 a1 hlen hroom hbig1 ho1 hw1
                have hl1 := ho2.l2.length
                have hl2 := hw2.l2.length
                refine grow_ok R hgr rfl (fun _ _ h => h) (ds := old'.toArray ++ vs2.toArray ++ Builtin.zeroCells z.cells (nc - (len + n))) (cap := nc) ?_ (by omega) ?_ (by rw [Sem.run_bind, hrun]; simp)
                · have e : (old ++ vs).length = (old' ++ vs2).length := by simp [hl1, hl2]
                  rw [e]
                  simp only [Array.toList_append]
                  rw [List.take_append_of_le_length (by simp), List.take_of_length_le (by simp)]
                  exact .of_l2 (ho2.l2.append hw2.l2)
                · simp only [Array.size_append, zeroCells_size, hz0, List.size_toArray, hw3, ho3]
                  have : len * info.size + n * info.size + (nc - (len + n)) * info.size = nc * info.size := by rw [← Nat.add_mul, ← Nat.add_mul]; congr 1; omega
                  omega
        | true =>
          have hcap := nble_le hU
          simp only
          unfold appMove
          cases hc : (Nat.beq cap (capU + info.size) && Nat.ble E.base b && Nat.ble b 100000) with
          | false => trivial
          | true =>
            simp only [Bool.and_eq_true] at hc
            obtain ⟨⟨c1, c2⟩, c3⟩ := hc
            have c1 := nbeq_eq c1
            have c2 := nble_le c2
            have c3 := nble_le c3
            simp only
            obtain ⟨cb, co, es, cap', rfl, hι, hce, hl, hsz⟩ := sliceU_inv hs hcap
            have hes : es = info.size := by omega
            subst hes
            subst hce
            cases hg : H.m.get b with
            | none => trivial
            | some ob =>
              cases ob <;> simp only <;> try trivial
              rename_i c e
              cases hee : Nat.beq e elem with
              | false => trivial
              | true =>
                have := nbeq_eq hee
                subst this
                simp only
                cases hcut : cut c o (len * info.size) with
                | none => trivial
                | some old =>
                  simp only
                  by_cases hroom : len + n ≤ cap'
                  · -- in its place
                    cases hgr : appGrow { H with m := H.m.del b } e info.size (old ++ vs) (len + n) with
                    | none => trivial
                    | some p =>
                      obtain ⟨v, H'⟩ := p
                      simp only [valH]
                      unfold appGrow at hgr
                      cases hal : allocCells { H with m := H.m.del b } e (old ++ vs) with
                      | none => rw [hal] at hgr; cases hgr
                      | some q =>
                        obtain ⟨a, H2⟩ := q
                        rw [hal] at hgr
                        simp only [Option.some.injEq, Prod.mk.injEq] at hgr
                        obtain ⟨rfl, rfl⟩ := hgr
                        have hr2 : co + o + len * info.size + vs.length ≤ σ cb := by
                          rw [hvl, hv3]
                          have : (len + n) * info.size ≤ cap' * info.size := Nat.mul_le_mul_right _ hroom
                          rw [Nat.add_mul] at this
                          omega
                        obtain ⟨ι', w', m1, m2, rfl, m4, m5, m6⟩ := move_rel (P := E.P) R hg hι c2 c3 hcut hv2 hcell hr2 hal
                        have hrun := append_room (t := t) ok h0 h1 hd hxd hni hsi a0 a1 hlen hv1 hroom
                        simp only [Addr.add_none] at hrun
                        have m1' : (storeCells ⟨cb, co + o + len * info.size, none⟩ vs'.toArray.toList).run E.P w = .ok () w' := by simpa using m1
                        rw [m1'] at hrun
                        refine ⟨ι', σ, _, w', by rw [Sem.run_bind, hrun]; rfl, m2, m5, ?_, Nat.le_of_lt m6⟩
                        have := VRel.sliceU (σ := σ) (o := 0) (len := len + n) (es := info.size) (cap := cap') m4 hroom (by omega)
                        simpa using this
                  · have hroom := Nat.not_le.1 hroom
                    cases hgr : appGrow { H with m := H.m.del b } e info.size (old ++ vs) (len + n) with
                    | none => trivial
                    | some p =>
                      obtain ⟨v, H'⟩ := p
                      simp only [valH]
                      have hv : vals (.slice (some ⟨b, o, none⟩) len (capU + info.size)) (len * info.size) H = some old := by simp only [vals, hg]; exact hcut
                      obtain ⟨old', ho1, ho2, ho3⟩ := vals_rel (P := E.P) (drew_rel R) hv (.sliceU hι hl hsz)
                      obtain ⟨vs2, hw1, hw2, hw3⟩ := new_run (P := E.P) (drew_rel R) hnew hx
                      obtain ⟨nc, hnc, hrun⟩ := append_grow (t := t) ok h0 h1 hd hxd hni hi hz k1 a0 a1 hlen hroom hbig1 ho1 hw1
                      have hl1 := ho2.l2.length
                      have hl2 := hw2.l2.length
                      refine grow_ok R hgr rfl (fun x ob hx => ?_) (ds := old'.toArray ++ vs2.toArray ++ Builtin.zeroCells z.cells (nc - (len + n))) (cap := nc) ?_ (by omega) ?_ (by rw [Sem.run_bind, hrun]; simp)
                      · by_cases exb : x = b
                        · subst exb; simp only at hx; rw [T.get_del_same _ _ c3] at hx; cases hx
                        · simp only at hx; rw [T.get_del_other _ _ _ exb] at hx; exact hx
                      · have e : (old ++ vs).length = (old' ++ vs2).length := by simp [hl1, hl2]
                        rw [e]
                        simp only [Array.toList_append]
                        rw [List.take_append_of_le_length (by simp), List.take_of_length_le (by simp)]
                        exact .of_l2 (ho2.l2.append hw2.l2)
                      · simp only [Array.size_append, zeroCells_size, hz0, List.size_toArray, hw3, ho3]
                        have : len * info.size + n * info.size + (nc - (len + n)) * info.size = nc * info.size := by rw [← Nat.add_mul, ← Nat.add_mul]; congr 1; omega
                        omega
      · trivial
end ops
end Go.Ex

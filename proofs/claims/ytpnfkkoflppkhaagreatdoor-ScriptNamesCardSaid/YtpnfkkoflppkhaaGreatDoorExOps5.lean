/- Operations side by side, the fifth part: conversions, appends, maps. -/
import Derived.Test.YtpnfkkoflppkhaaGreatDoorExOps4
noncomputable section
namespace Go.Ex

section ops
variable {E : Env} {w0 w : World} {ι : Ren} {σ : Nat → Nat} {H : AH} {r : Nat → Value} {tmps : Array Value}

theorem freeze_rel (R : HRel E w0 ι σ H w) {cb : Nat} (hn : w0.heap.size ≤ cb) {c : Array Value} {e : TypeId} {fr : Nat × Nat}
    (hc : w.heap[cb]? = some (.cells c e fr)) : HRel E w0 ι σ H (w.freeze ⟨cb, c.size, none⟩ 1) := by
  have hsz : (w.freeze ⟨cb, c.size, none⟩ 1).heap.size = w.heap.size := by simp [World.freeze]
  have hoth : ∀ i, i ≠ cb → (w.freeze ⟨cb, c.size, none⟩ 1).heap[i]? = w.heap[i]? := by
    intro i hi
    simp only [World.freeze, Nat.one_ne_zero, if_false, Array.getElem?_modify]
    rw [if_neg (Ne.symm hi)]
  obtain ⟨lo, hi⟩ := fr
  have hself : (w.freeze ⟨cb, c.size, none⟩ 1).heap[cb]? = some (.cells c e (if lo == hi then (c.size, c.size + 1) else (min lo c.size, max hi (c.size + 1)))) := by
    simp only [World.freeze, Nat.one_ne_zero, if_false, Array.getElem?_modify, if_true, hc, Option.map_some]
  constructor
  · intro b o hg x hx
    obtain ⟨o', h1, h2⟩ := R.blk b o hg x hx
    by_cases ex : x.1 = cb
    · rw [ex, hc] at h1
      cases h1
      refine ⟨_, by rw [ex]; exact hself, ?_⟩
      cases o <;> simp only [ORel] at h2 ⊢
      obtain ⟨a, b, d⟩ := h2
      refine ⟨a, ?_, d⟩
      by_cases hlh : lo = hi
      · simp [hlh]
      · have : c.size ≤ lo := by rcases b with b | b; exact absurd b hlh; exact b
        simp [hlh]; omega
    · exact ⟨o', by rw [hoth _ ex]; exact h1, h2⟩
  · exact R.inj
  · intro b x hx; rw [hsz]; exact R.rng b x hx
  · intro b x hx cs e' fr' h
    by_cases ex : x.1 = cb
    · rw [ex, hself] at h
      cases h
      have := R.siz b x hx c e (lo, hi) (by rw [ex]; exact hc)
      rw [ex] at this ⊢; exact this
    · rw [hoth _ ex] at h; exact R.siz b x hx _ _ _ h
  · exact R.dom
  · exact R.live
  · exact R.glob
  · exact R.new
  · intro i hi; rw [hoth _ (by omega)]; exact R.old i hi
  · rw [hsz]; exact R.size
  · simp [World.freeze]; exact R.tape
  · simp [World.freeze]; exact R.os
  · simp [World.freeze]; exact R.out

theorem mark_run {P : Program} {w : World} {r off : Nat} {c : Array Value} {e : TypeId} {fr : Nat × Nat} (h : w.heap[r]? = some (.cells c e fr)) :
    (markStringish ⟨r, off, none⟩).run P w = .ok () (w.freeze ⟨r, c.size, none⟩ 1) := by
  simp [markStringish, World.shape?, h]

/-- A block of a slice's bytes is marked. -/
theorem mark_rel (R : HRel E w0 ι σ H w) {b cb co off : Nat} (hι : ι b = some (cb, co)) (hb : E.base ≤ b) :
    ∃ w', (markStringish ⟨cb, off, none⟩).run E.P w = .ok () w' ∧ HRel E w0 ι σ H w' := by
  have hn := R.new b _ hb hι
  have hlt := R.rng b _ hι
  simp only at hn hlt
  cases ho : w.heap[cb]? with
  | none => exact ⟨w, by simp [markStringish, World.shape?, ho], R⟩
  | some o =>
    cases o with
    | cells c e fr => exact ⟨_, mark_run ho, freeze_rel R hn ho⟩
    | _ => exact ⟨w, by simp [markStringish, World.shape?, ho], R⟩

theorem bytes_plain : ∀ l : List UInt8, (l.map fun b => Value.int .u8 b.toNat).all plainV = true
  | [] => rfl
  | _ :: l => bytes_plain l

theorem strBytes_ok (R : HRel E w0 ι σ H w) (e : TypeId) (s : ByteArray) (p : Sem Value) (hp' : E.und.get e = some (.int .u8) → p.run E.P w = (Conv.stringToBytes e s).run E.P w) :
    ResOk E w0 ι σ H w (valH (strBytes E H e s)) ((do pure (.value (← p)) : Sem Next).run E.P w) := by
  unfold strBytes
  split
  rotate_left
  · trivial
  rename_i he hs
  have hp := hp' he
  cases hb : Nat.ble s.size 1000000 with
  | false => trivial
  | true =>
    have hb' := nble_le hb
    simp only
    cases ha : allocCells H e (s.data.toList.map fun b => .int .u8 b.toNat) with
    | none => trivial
    | some q =>
      obtain ⟨a, H'⟩ := q
      simp only [valH]
      let cap := Question.cut (.appendCap s.size 0 e) (w.tape w.drawn (.appendCap s.size 0 e))
      have hcap : s.size ≤ cap := by show s.size ≤ s.size + _; omega
      let ds : Array Value := (s.data.map fun b => Value.int .u8 b.toNat) ++ Array.replicate (cap - s.size) (.int .u8 0)
      have hds : VsRel ι σ (s.data.toList.map fun b => .int .u8 b.toNat) (ds.toList.take (s.data.toList.map fun b => Value.int .u8 b.toNat).length) := by
        have : ds.toList.take (s.data.toList.map fun b => Value.int .u8 b.toNat).length = s.data.toList.map fun b => Value.int .u8 b.toNat := by
          simp only [ds, Array.toList_append, Array.toList_map]
          rw [List.take_append_of_le_length (Nat.le_refl _), List.take_length]
        rw [this]
        exact plains_refl (bytes_plain _)
      have hdl : ds.size = cap := by simp only [ds, Array.size_append, Array.size_map, Array.size_replicate]; show s.size + _ = _; omega
      obtain ⟨ι', σ', h1, rfl, h3, h4, h5, h6⟩ := allocCells_rel (drew_rel R) ha hds
      have h3' : ι' H.next = some (w.heap.size, 0) := h3
      have hnew : (w.drew.alloc (.cells ds e)).heap[w.heap.size]? = some (.cells ds e) := heap_alloc_new w.drew _
      have h7 := freeze_rel h4 (cb := w.heap.size) R.size hnew
      refine ⟨ι', σ', .slice (some ⟨w.heap.size, 0, none⟩) s.size cap, _, ?_, h1, h7, ?_, Nat.le_of_lt h5⟩
      · have hm := mark_run (P := E.P) (off := 0) hnew
        have hrun : (Conv.stringToBytes e s).run E.P w = .ok (.slice (some ⟨w.heap.size, 0, none⟩) s.size cap) ((w.drew.alloc (.cells ds e)).freeze ⟨w.heap.size, ds.size, none⟩ 1) := by
          show ((markStringish ⟨w.heap.size, 0, none⟩).bind fun _ => Sem.pure (Value.slice (some ⟨w.heap.size, 0, none⟩) s.size cap)).run E.P (w.drew.alloc (.cells ds e)) = _
          rw [Sem.run_bind', hm]; rfl
        rw [Sem.run_bind, hp, hrun]; rfl
      · have h6' : σ' w.heap.size = cap := by rw [← hdl]; exact h6
        simpa using VRel.sliceU (σ := σ') (o := 0) (len := s.size) (es := 1) (cap := cap) h3' hcap (by rw [h6']; omega)

theorem bytesToString_run {P : Program} {w : World} {a : Addr} {n c : Nat} {arr : Array Value} (h : (loadCells a n).run P w = .ok arr w) :
    (Conv.bytesToString (.slice (some a) n c)).run P w = (strOf arr).run P w := by
  unfold Conv.bytesToString strOf
  simp only [Sem.run_bind, h, Result.andThen_ok]
  rfl

theorem bytesStr_run (R : HRel E w0 ι σ H w) {x x' v : Value} (h : bytesStr E H x = some v) (hx : VRel ι σ x x') :
    ∃ s, v = .string s ∧ (Conv.bytesToString x').run E.P w = .ok (.string s) w := by
  have key : ∀ b o n c a' c', x = .slice (some ⟨b, o, none⟩) n c → x' = .slice (some a') n c' → ∃ s, v = .string s ∧ (Conv.bytesToString x').run E.P w = .ok (.string s) w := by
    rintro b o n c a' c' rfl rfl
    simp only [bytesStr] at h
    cases hv : vals (.slice (some ⟨b, o, none⟩) n c) (n * 1) H with
    | none => simp only [hv] at h; cases h
    | some vs =>
      simp only [hv] at h
      split at h <;> try (cases h; done)
      rename_i s hp hs
      simp only [Option.some.injEq] at h
      subst h
      obtain ⟨vs', h1, h2, _⟩ := vals_rel (P := E.P) R hv hx
      have := plains_eq hp h2
      subst this
      simp only [Builtin.firstCells, Nat.mul_one] at h1
      exact ⟨s, rfl, by rw [bytesToString_run h1]; exact pureRun_run hs w⟩
  cases hx <;> try (simp [bytesStr] at h; done)
  · simp [bytesStr] at h; subst h
    exact ⟨_, rfl, by simp [Conv.bytesToString]⟩
  · simp [bytesStr] at h; subst h
    refine ⟨_, rfl, ?_⟩
    rw [bytesToString_run (arr := #[]) (by simp [loadCells, loadCellsFrom])]
    simp [strOf]
  · exact key _ _ _ _ _ _ rfl rfl
  · exact key _ _ _ _ _ _ rfl rfl

theorem convBytes {src dst e : TypeId} (us : (underlying src).run E.P w = .ok (.slice e) w) (ud : (underlying dst).run E.P w = .ok .string w) (ue : (underlying e).run E.P w = .ok (.int .u8) w)
    {a : Option Addr} {b c : Nat} {x' : Value} (hx : VRel ι σ (.slice a b c) x') : (Go.convert src dst x').run E.P w = (Conv.bytesToString x').run E.P w := by
  cases hx <;> simp [Go.convert, us, ud, ue]

theorem same_ok (ok : EnvOk E) (R : HRel E w0 ι σ H w) {src e b o cb co len cap len' cap' : Nat} (us : (underlying src).run E.P w = .ok (.slice e) w) (he : E.und.get e = some (.int .u8))
    (hι : ι b = some (cb, co)) (hv : VRel ι σ (.slice (some ⟨b, o, none⟩) len cap) (.slice (some ⟨cb, co + o, none⟩) len' cap')) (hb : E.base ≤ b) :
    ResOk E w0 ι σ H w (.val (.slice (some ⟨b, o, none⟩) len cap) H) ((do pure (.value (← Go.convert src src (.slice (some ⟨cb, co + o, none⟩) len' cap'))) : Sem Next).run E.P w) := by
  obtain ⟨w', h1, h2⟩ := mark_rel (off := co + o) R hι hb
  exact ⟨ι, σ, _, w', by simp [Go.convert, us, run_und ok he, h1], Ext.refl _ _ _, h2, hv, Nat.le_refl _⟩

theorem conv_ok (ok : EnvOk E) (R : HRel E w0 ι σ H w) (src dst : TypeId) {x x' : Value} (hx : VRel ι σ x x') :
    ResOk E w0 ι σ H w (valH (convV E H src dst x)) ((do pure (.value (← Go.convert src dst x')) : Sem Next).run E.P w) := by
  unfold convV
  cases hs : E.und.get src with
  | none => trivial
  | some sd =>
    cases hd : E.und.get dst with
    | none => trivial
    | some dd =>
      simp only
      have us := run_und (w := w) ok hs
      have ud := run_und (w := w) ok hd
      unfold convT
      split
      · -- to an integer
        split
        · cases hx
          exact ResOk.val_same R (by simp [Go.convert, us, ud, Conv.intToInt]) (.int _ _)
        · trivial
      · -- to a string
        split
        · cases hx
          exact ResOk.val_same R (by simp [Go.convert, us, ud]) (.string _)
        · split
          · rename_i e
            unfold bytesV
            split
            rotate_left
            · trivial
            rename_i he
            cases hb : bytesStr E H (.slice _ _ _) with
            | none => trivial
            | some v =>
              simp only [valH]
              obtain ⟨s, rfl, h1⟩ := bytesStr_run (w := w) R hb hx
              refine ResOk.val_same R ?_ (.string s)
              rw [Sem.run_bind, convBytes us ud (run_und ok he) hx, h1]
              rfl
          · trivial
        · trivial
      · -- to a slice
        split
        · cases hx
          exact strBytes_ok R _ _ _ (fun he => by simp [Go.convert, us, ud, run_und ok he])
        · split
          · unfold sameBytes
            split
            rotate_left
            · trivial
            rename_i hb he
            simp only [Bool.and_eq_true] at hb
            have e1 := nbeq_eq hb.1
            have e2 := nble_le hb.2
            subst e1
            simp only [valH]
            cases hx with
            | slice hι hc => exact same_ok ok R ud he hι (.slice hι hc) e2
            | sliceU hι hl hc => exact same_ok ok R ud he hι (.sliceU hι hl hc) e2
          · trivial
        · trivial
      · trivial
end ops
end Go.Ex

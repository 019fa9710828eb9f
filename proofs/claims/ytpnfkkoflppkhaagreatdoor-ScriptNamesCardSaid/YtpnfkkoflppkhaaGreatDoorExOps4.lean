/- Operations side by side, the fourth part: new rows, appends, conversions, maps. -/
import Derived.Test.YtpnfkkoflppkhaaGreatDoorExOps3
noncomputable section
namespace Go.Ex

section ops
variable {E : Env} {w0 w : World} {ι : Ren} {σ : Nat → Nat} {H : AH} {r : Nat → Value} {tmps : Array Value}

theorem zeros_length (z : List Value) : ∀ n, (zeros z n).length = n * z.length
  | 0 => by simp [zeros]
  | n + 1 => by simp [zeros, zeros_length z n, Nat.add_mul, Nat.add_comm]

theorem zeros_get (z : List Value) : ∀ (n i : Nat), i < n * z.length → (zeros z n)[i]? = z[i % z.length]?
  | 0, i, h => by simp at h
  | n + 1, i, h => by
    simp only [zeros]
    by_cases hi : i < z.length
    · rw [List.getElem?_append_left hi, Nat.mod_eq_of_lt hi]
    · have h' : i - z.length < n * z.length := by rw [Nat.add_mul, Nat.one_mul] at h; omega
      rw [List.getElem?_append_right (by omega), zeros_get z n _ h', Nat.mod_eq_sub_mod (a := i) (by omega)]

theorem zeros_eq (z : Array Value) (n k : Nat) (hz : z.size = k) (hk : 0 < k) :
    ((Array.range (n * k)).map (fun i => z[i % z.size]!)).toList = zeros z.toList n := by
  apply List.ext_getElem?
  intro i
  by_cases hi : i < n * k
  · rw [zeros_get _ _ _ (by simpa [hz] using hi)]
    have hm : i % k < k := Nat.mod_lt _ hk
    simp only [Array.toList_map, Array.toList_range, List.getElem?_map, List.getElem?_range hi, Option.map_some, hz, Array.length_toList]
    rw [getElem!_pos z _ (by omega), List.getElem?_eq_getElem (by simpa using (by omega : i % k < z.size))]
    simp
  · rw [List.getElem?_eq_none (by simp; omega), List.getElem?_eq_none (by rw [zeros_length]; simp [hz]; omega)]

theorem range0 (f : Nat → Value) : (Array.range 0).map f = #[] := by simp

theorem zeros_rel {z : List Value} (h : VsRel ι σ z z) : ∀ n, VsRel ι σ (zeros z n) (zeros z n)
  | 0 => .nil
  | n + 1 => .of_l2 (h.l2.append (zeros_rel h n).l2)

theorem zero_cells {z : Value} (h : plain1 z = true) : VsRel ι σ z.cells.toList z.cells.toList :=
  cells_rel (plain1_refl h) (by rintro k b rfl; simp [plain1, plainV] at h)

/-- A slice over a new row. -/
theorem ResOk.newSlice {e : TypeId} {cs : List Value} {s : Result Next} {ds : Array Value} (_ : HRel E w0 ι σ H w) {a : Addr} {H' : AH} (ha : allocCells H e cs = some (a, H'))
    (hd : VsRel ι σ cs (ds.toList.take cs.length)) {len cap cap' : Nat} (hc : (cap < capU ∧ cap' = cap) ∨ ∃ es, cap = capU + es ∧ len ≤ cap' ∧ cap' * es ≤ ds.size) (w' : World) (R' : HRel E w0 ι σ H w')
    (hsz : w'.heap.size = w.heap.size)
    (hs : s = .ok (.value (.slice (some ⟨w.heap.size, 0, none⟩) len cap')) (w'.alloc (.cells ds e))) : ResOk E w0 ι σ H w (.val (.slice (some a) len cap) H') s := by
  obtain ⟨ι', σ', h1, rfl, h3, h4, h5, h6⟩ := allocCells_rel R' ha hd
  rw [hsz] at h3 h6
  refine ⟨ι', σ', _, _, hs, h1, h4, ?_, Nat.le_of_lt h5⟩
  rcases hc with ⟨hc, rfl⟩ | ⟨es, rfl, hl, hle⟩
  · simpa using VRel.slice (σ := σ') (o := 0) (len := len) h3 hc
  · simpa using VRel.sliceU (σ := σ') (o := 0) (len := len) (es := es) (cap := cap') h3 hl (by rw [h6]; omega)

theorem buildSlice_ok (ok : EnvOk E) (R : HRel E w0 ι σ H w) (hr : ∀ t, VRel ι σ (r t) (tmps.getD t undef)) (t : TypeId) (len : Nat) (ps : Array (Nat × Operand)) :
    ResOk E w0 ι σ H w (valH (buildSliceV E H t len (partsOf E r ps.toList))) ((do pure (.value (← Instr.buildSlice t len (ps.map fun p => (p.1, evC tmps p.2)))) : Sem Next).run E.P w) := by
  unfold buildSliceV
  cases hd : E.und.get t with
  | none => trivial
  | some d =>
    cases d <;> simp only <;> try trivial
    rename_i elem
    split
    rotate_left
    · trivial
    rename_i n z hs hz
    obtain ⟨hz1, hz2⟩ := zeroP_some hz
    cases hb : (Nat.ble (len * n) 10000 && Nat.beq z.cells.toList.length n && Nat.ble 1 n) with
    | false => trivial
    | true =>
      simp only
      simp only [Bool.and_eq_true] at hb
      obtain ⟨⟨hb1, hb2⟩, hb3⟩ := hb
      have hb1 := nble_le hb1
      have hb2 := nbeq_eq hb2
      have hb3 := nble_le hb3
      cases hfl : fillL (fun i => some (i * n, n)) (zeros z.cells.toList len) (partsOf E r ps.toList) with
      | none => trivial
      | some cs =>
        simp only
        cases ha : allocCells H elem cs with
        | none => trivial
        | some p =>
          obtain ⟨a, H'⟩ := p
          simp only [valH]
          have hz0 : z.cells.size = n := by rw [← hb2]; simp
          have hzz := zeros_eq z.cells len n hz0 hb3
          obtain ⟨out', h1, h2⟩ := fill_rel (fun i => some (i * n, n)) (fun i => some (i * n, n)) (fun _ _ h => h) _ _ _ ((Array.range (len * n)).map (fun i => z.cells[i % z.cells.size]!)) _ (parts_rel R hr ps)
            (by rw [hzz]; exact zeros_rel (zero_cells hz2) len) hfl
          refine ResOk.newSlice R ha (ds := out') (by rw [take_self h2.l2.length]; exact h2) (.inl ⟨by unfold capU; have : len ≤ len * n := Nat.le_mul_of_pos_right _ hb3; omega, rfl⟩) w R rfl ?_
          have hn : ¬ (len * n > 2 ^ 24) := by omega
          by_cases h0 : len * n = 0
          · rw [h0, range0] at h1
            simp only [Array.toList_map] at h1
            have e2 : ∀ f : Nat → Value, Array.map f (Array.range 0) = #[] := range0
            simp [Instr.buildSlice, run_und ok hd, run_siz ok hs, h0, newRow, e2]
            rw [h1]; rfl
          · simp [Instr.buildSlice, run_und ok hd, run_siz ok hs, h0, hn, run_zer ok hz1, newRow] at h1 ⊢
            rw [h1]; rfl

theorem wrap_small {n : Nat} (h : n < 2 ^ 63) : IntKind.i64.wrap (Int.ofNat n) = n := by
  have e : IntKind.i64.bits = 64 := rfl
  have e2 : IntKind.i64.signed = true := rfl
  unfold IntKind.wrap
  simp only [e, e2, Int.ofNat_eq_natCast]
  have : ((n : Int) % 2 ^ 64) = n := by omega
  rw [this, if_neg (by simp; omega)]

theorem makeSlice_ok (ok : EnvOk E) (R : HRel E w0 ι σ H w) (t : TypeId) {l c l' c' : Value} (hl : VRel ι σ l l') (hc : VRel ι σ c c') :
    ResOk E w0 ι σ H w (valH (makeSliceV E H t l c)) ((do pure (.value (← Instr.makeSlice t l' c')) : Sem Next).run E.P w) := by
  unfold makeSliceV
  split
  rotate_left
  · trivial
  rename_i elem k1 l k2 c hd
  cases hl; cases hc
  cases hi : E.inf.get elem with
  | none => trivial
  | some info =>
    simp only
    cases hz : info.zero with
    | none => trivial
    | some z =>
      simp only
      cases hb : (plain1 z && Nat.ble l c && Nat.ble c 100000 && Nat.ble info.bytes 4096 && Nat.ble 1 info.size && Nat.beq z.cells.toList.length info.size) with
      | false => trivial
      | true =>
        simp only
        simp only [Bool.and_eq_true] at hb
        obtain ⟨⟨⟨⟨⟨hp, h1⟩, h2⟩, h3⟩, h4⟩, h5⟩ := hb
        have h1 := nble_le h1
        have h2 := nble_le h2
        have h3 := nble_le h3
        have h4 := nble_le h4
        have h5 := nbeq_eq h5
        cases ha : allocCells H elem (zeros z.cells.toList c) with
        | none => trivial
        | some p =>
          obtain ⟨a, H'⟩ := p
          simp only [valH]
          have hz0 : z.cells.size = info.size := by rw [← h5]; simp
          have hzz := zeros_eq z.cells c info.size hz0 h4
          have hrel := zeros_rel (ι := ι) (σ := σ) (zero_cells hp) c
          refine ResOk.newSlice R ha (ds := (Array.range (c * info.size)).map (fun i => z.cells[i % z.cells.size]!)) (by rw [hzz, take_self rfl]; exact hrel) (.inl ⟨by unfold capU; omega, rfl⟩) w R rfl ?_
          have hwl : IntKind.i64.wrap (Int.ofNat l) = l := wrap_small (by omega)
          have hwc : IntKind.i64.wrap (Int.ofNat c) = c := wrap_small (by omega)
          have hsz : sizT E elem = some info.size := by simp [sizT, hi]
          have hzr : zerT E elem = some z := by simp [zerT, hi, hz]
          have hbig : ¬ ((info.bytes : Int) * (c : Int) > 2 ^ 48) := by
            have h9 : info.bytes * c ≤ 4096 * 100000 := Nat.mul_le_mul h3 h2
            have h10 := Int.ofNat_le.2 h9
            rw [Int.natCast_mul] at h10
            omega
          have hlc : ¬ ((l : Int) > (c : Int)) := by omega
          have hc0 : ¬ ((c : Int) < 0) := by omega
          have hl0 : ¬ ((l : Int) < 0) := by omega
          unfold Instr.makeSlice
          simp only [Sem.run_bind, run_und ok hd, Result.andThen_ok, asInt, asIntOf, Sem.run_pure, run_inf ok hi, hwl, hwc]
          simp only [hc0, hbig, hl0, hlc, decide_false, Bool.or_self, Bool.false_eq_true, if_false, Sem.run_bind, run_askRoom, Result.andThen_ok, run_siz ok hsz, Int.toNat_natCast]
          by_cases h0 : c * info.size = 0
          · rw [if_pos h0, h0, range0]
            have e2 : ∀ f : Nat → Value, Array.map f (Array.range 0) = #[] := range0
            simp [newRow, e2]
          · rw [if_neg h0]
            simp [newRow, run_zer ok hzr]
end ops
end Go.Ex

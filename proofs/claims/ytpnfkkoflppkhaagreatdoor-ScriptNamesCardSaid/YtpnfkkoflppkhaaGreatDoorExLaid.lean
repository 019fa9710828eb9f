/- Package-level tables that are known to read as plain data: their cells. -/
import Derived.Test.YtpnfkkoflppkhaaGreatDoorExEnv
import Derived.FnData
import Derived.ChangeArms
import GoSem.ClaimJoined
noncomputable section
namespace Go.Ex

/-- Parts in a row, each behind the one before. -/
def tile {H : Type} (rec : TypeId → DataW H → Option (List Value)) (size : TypeId → Nat) : List (Nat × TypeId) → List (DataW H) → Nat → Option (List Value)
  | [], [], _ => some []
  | it :: is, d :: ds, pos =>
    match Nat.beq it.1 pos, rec it.2 d with
    | true, some vs => match Nat.beq vs.length (size it.2) with
      | true => match tile rec size is ds (pos + vs.length) with
        | some us => some (vs ++ us)
        | none => none
      | false => none
    | _, _ => none
  | _, _, _ => none

/-- The cells of a datum without places. -/
def flatOf {H : Type} (und : TypeId → Option TypeDesc) (size : TypeId → Nat) : Nat → TypeId → DataW H → Option (List Value)
  | 0, _, _ => none
  | f + 1, t, d =>
    match und t, d with
    | some .bool, .lit (.bool b) => some [.bool b]
    | some (.int k), .lit (.int _ n) => some [.int k n]
    | some .string, .lit (.string bs) => some [.string ⟨bs.toArray⟩]
    | some (.struct fs), .agg ps => match tile (flatOf und size f) size (fs.toList.map fun x => (x.offset, x.type)) ps 0 with
      | some vs => match Nat.beq vs.length (size t) with | true => some vs | false => none
      | none => none
    | some (.array n e), .agg ps => match tile (flatOf und size f) size ((List.range n).map fun i => (i * size e, e)) ps 0 with
      | some vs => match Nat.beq vs.length (size t) with | true => some vs | false => none
      | none => none
    | _, _ => none

theorem tile_cells {H : Type} {rec : TypeId → DataW H → Option (List Value)} {size : TypeId → Nat} {α : Type} {off : α → Nat} {ty : α → TypeId} {cs : List Value} {F : TypeId → List Value → Option (DataW H × List MemPlace)}
    (hrec : ∀ t cs x vs, F t cs = some x → rec t x.1 = some vs → cs = vs) : ∀ (l : List α) (xs : List (DataW H × List MemPlace)) (pos : Nat) (vs : List Value),
    l.mapM (fun a => F (ty a) ((cs.drop (off a)).take (size (ty a)))) = some xs → tile rec size (l.map fun a => (off a, ty a)) (xs.map (·.1)) pos = some vs → (cs.drop pos).take vs.length = vs
  | [], xs, pos, vs, h, ht => by
    simp at h
    subst h
    simp [tile] at ht
    subst ht
    rfl
  | a :: l, xs, pos, vs, h, ht => by
    rw [List.mapM_cons] at h
    cases hF : F (ty a) ((cs.drop (off a)).take (size (ty a))) with
    | none => rw [hF] at h; cases h
    | some x =>
      rw [hF] at h
      cases hl : l.mapM (fun a => F (ty a) ((cs.drop (off a)).take (size (ty a)))) with
      | none => rw [hl] at h; cases h
      | some ys =>
        rw [hl] at h
        have h' : some (x :: ys) = some xs := h
        cases h'
        simp only [List.map_cons, tile] at ht
        cases hb : Nat.beq (off a) pos with
        | false => rw [hb] at ht; cases ht
        | true =>
          rw [hb] at ht
          have hpos := nbeq_eq hb
          cases hr : rec (ty a) x.1 with
          | none => rw [hr] at ht; cases ht
          | some us =>
            rw [hr] at ht
            simp only at ht
            cases hs : Nat.beq us.length (size (ty a)) with
            | false => rw [hs] at ht; cases ht
            | true =>
              rw [hs] at ht
              simp only at ht
              have hsz := nbeq_eq hs
              cases htl : tile rec size (l.map fun a => (off a, ty a)) (ys.map (·.1)) (pos + us.length) with
              | none => rw [htl] at ht; cases ht
              | some ws =>
                rw [htl] at ht
                simp only [Option.some.injEq] at ht
                subst ht
                have e1 := hrec _ _ _ _ hF hr
                have e2 := tile_cells hrec l ys _ ws hl htl
                rw [hpos, ← hsz] at e1
                rw [List.length_append, List.take_add, e1, List.drop_drop, e2]

theorem flat_cells {H : Type} {enc : TypeId × Value → H} {P : Program} {w : World} {base : Nat} {spare : Nat → Bool} {held : Bool} : ∀ (g fuel : Nat) (t : TypeId) (cs : List Value) (x : DataW H × List MemPlace) (vs : List Value),
    DataW.trod enc P w base spare held fuel t cs = some x → flatOf P.underlying P.cellsOf g t x.1 = some vs → cs = vs
  | 0, _, _, _, _, _, _, h => by cases h
  | g + 1, 0, _, _, _, _, h, _ => by simp [DataW.trod] at h
  | g + 1, fuel + 1, t, cs, x, vs, h, hf => by
    have ih := flat_cells (enc := enc) (P := P) (w := w) (base := base) (spare := spare) (held := held) g fuel
    unfold flatOf at hf
    cases hu : P.underlying t with
    | none => rw [hu] at hf; cases hf
    | some ty =>
      rw [hu] at hf
      cases ty <;> try (cases hf; done)
      case bool =>
        obtain ⟨b, rfl, rfl⟩ := Go.DataW.trod_bool hu h
        cases hf; rfl
      case int k =>
        obtain ⟨n, rfl, rfl, _⟩ := Go.DataW.trod_int hu h
        cases hf; rfl
      case string =>
        obtain ⟨b, rfl, rfl, _⟩ := Go.DataW.trod_string hu h
        cases hf; rfl
      case struct fs =>
        unfold DataW.trod at h
        rw [hu] at h
        simp only at h
        split at h <;> try (cases h; done)
        rename_i hlen
        cases hm : (fs.toList.mapM fun f => DataW.trod enc P w base spare held fuel f.type ((cs.drop f.offset).take (P.cellsOf f.type))) with
        | none => rw [hm] at h; cases h
        | some xs =>
          rw [hm] at h
          simp only [Option.map_some, Option.some.injEq] at h
          subst h
          simp only at hf
          cases ht : tile (flatOf P.underlying P.cellsOf g) P.cellsOf (fs.toList.map fun x => (x.offset, x.type)) (xs.map (·.1)) 0 with
          | none => rw [ht] at hf; cases hf
          | some us =>
            rw [ht] at hf
            simp only at hf
            cases hb : Nat.beq us.length (P.cellsOf t) with
            | false => rw [hb] at hf; cases hf
            | true =>
              rw [hb] at hf
              simp only [Option.some.injEq] at hf
              subst hf
              have e := tile_cells (F := fun t cs => DataW.trod enc P w base spare held fuel t cs) (off := fun f : Field => f.offset) (ty := fun f => f.type) ih fs.toList xs 0 us hm ht
              rw [nbeq_eq hb, ← hlen] at e
              simpa using e
      case array n e =>
        unfold DataW.trod at h
        rw [hu] at h
        simp only at h
        split at h <;> try (cases h; done)
        rename_i hlen
        cases hm : ((List.range n).mapM fun i => DataW.trod enc P w base spare held fuel e ((cs.drop (i * P.cellsOf e)).take (P.cellsOf e))) with
        | none => rw [hm] at h; cases h
        | some xs =>
          rw [hm] at h
          simp only [Option.map_some, Option.some.injEq] at h
          subst h
          simp only at hf
          cases ht : tile (flatOf P.underlying P.cellsOf g) P.cellsOf ((List.range n).map fun i => (i * P.cellsOf e, e)) (xs.map (·.1)) 0 with
          | none => rw [ht] at hf; cases hf
          | some us =>
            rw [ht] at hf
            simp only at hf
            cases hb : Nat.beq us.length (P.cellsOf t) with
            | false => rw [hb] at hf; cases hf
            | true =>
              rw [hb] at hf
              simp only [Option.some.injEq] at hf
              subst hf
              have e := tile_cells (F := fun t cs => DataW.trod enc P w base spare held fuel t cs) (off := fun i : Nat => i * P.cellsOf e) (ty := fun _ => e) ih (List.range n) xs 0 us hm ht
              rw [nbeq_eq hb, ← hlen] at e
              simpa using e

/-- A listed variable's block. -/
theorem laid_block {P : Program} {w : World} {laid : List (String × DataW Unit)} (h : laidMet P laid w) {n : String} {d : DataW Unit} (hm : (n, d) ∈ laid) {g : Nat} {t : TypeId} (hg : P.globalNamed n = some g)
    (ht : (P.globals[g]?).map (·.type) = some t) {k : Nat} {vs : List Value} (hf : flatOf P.underlying P.cellsOf k t d = some vs) (hne : vs.length ≠ 0) :
    ∃ cs e, w.heap[g]? = some (.cells cs e (0, 0)) ∧ cs.toList = vs := by
  obtain ⟨ps, hl, _, hp⟩ := h
  have key : ∀ (l : List (String × DataW Unit)) (ps' : List MemPlace), DataW.LaidVars P w l ps' → (∀ x ∈ ps', x ∈ ps) → (n, d) ∈ l → ∃ cs e, w.heap[g]? = some (.cells cs e (0, 0)) ∧ cs.toList = vs := by
    intro l
    induction l with
    | nil => intro ps' _ _ hmem; simp at hmem
    | cons a l ih =>
      intro ps' hlv hsub hmem
      obtain ⟨n', d'⟩ := a
      obtain ⟨g', t', cs, fuel, p, q, h1, h2, h3, h4, h5, rfl⟩ := hlv
      simp only [List.mem_cons] at hmem
      rcases hmem with e | hmem
      · cases e
        obtain rfl := Option.some.inj (hg.symm.trans h1)
        obtain rfl := Option.some.inj (ht.symm.trans h2)
        have hcs := flat_cells k fuel t cs.toList (d, p) vs h4 hf
        simp only [World.var?, hg, Option.bind_some] at h3
        split at h3 <;> try (cases h3; done)
        rename_i c e fr hb
        cases h3
        have hpos : 0 < cs.size := by
          have : cs.toList.length = vs.length := by rw [hcs]
          simp at this; omega
        obtain ⟨⟨c2, t2, hh⟩, _⟩ := hp g 0 (hsub _ (by simp [MemPlace.row]; exact .inl hpos))
        rw [hb] at hh
        cases hh
        exact ⟨_, _, hb, hcs⟩
      · exact ih q h5 (fun x hx => hsub x (by simp [hx])) hmem
  exact key laid ps hl (fun _ hx => hx) hm

/-- The relation of a table to its block. -/
theorem table_rel {ι : Ren} {σ : Nat → Nat} {cs : Array Value} {e e' : TypeId} {vs : List Value} (h : cs.toList = vs) (hp : vs.all plainV = true) : ORel ι σ 0 (.cells vs e') (.cells cs e (0, 0)) := by
  refine ⟨rfl, .inl rfl, fun i v hv => ⟨v, ?_, plainV_refl (List.all_eq_true.1 hp v (List.mem_of_getElem? hv))⟩⟩
  rw [← h] at hv
  simpa using hv
end Go.Ex

/- Regions that draw their order: what holds in every order. -/
import Derived.Test.YtpnfkkoflppkhaaGreatDoorExFr
noncomputable section
namespace Go.Ex

section static
variable {arr : Array Oper} {ops : List Oper} {listed : Array Bool}

def Down (arr : Array Oper) (listed : Array Bool) : Prop :=
  ∀ (j : Nat) (o : Oper), listed[j]? = some true → arr[j]? = some o → ∀ e ∈ o.after, Region.binds .any e = true → listed[e.on]? = some true

/-- All that binds i is listed. -/
def Free (arr : Array Oper) (listed : Array Bool) (i : Nat) : Prop := ∀ o : Oper, arr[i]? = some o → ∀ e ∈ o.after, Region.binds .any e = true → listed[e.on]? = some true

def Ahead (arr : Array Oper) (j i : Nat) : Prop := ∀ listed, Down arr listed → (listed[i]? = some true ∨ Free arr listed i) → listed[j]? = some true

theorem mask_bits {acc : List Nat} : ∀ (es : List Edge) (s j : Nat), Nat.testBit (es.foldl (fun s e => match Region.binds .any e with | true => s ||| 2 ^ e.on ||| (getAll acc e.on).getD 0 | false => s) s) j = true →
    Nat.testBit s j = true ∨ ∃ e ∈ es, Region.binds .any e = true ∧ (j = e.on ∨ ∃ m, acc[e.on]? = some m ∧ Nat.testBit m j = true)
  | [], s, j, h => .inl h
  | e :: es, s, j, h => by
    simp only [List.foldl_cons] at h
    rcases mask_bits es _ j h with h | ⟨e', h1, h2, h3⟩
    · cases hb : Region.binds .any e with
      | false => rw [hb] at h; exact .inl h
      | true =>
        rw [hb] at h
        simp only [Nat.testBit_or, Bool.or_eq_true] at h
        rcases h with (h | h) | h
        · exact .inl h
        · refine .inr ⟨e, by simp, hb, .inl ?_⟩
          rw [Nat.testBit_two_pow] at h
          simpa using (of_decide_eq_true h).symm
        · refine .inr ⟨e, by simp, hb, .inr ?_⟩
          rw [getAll_eq] at h
          cases hm : acc[e.on]? with
          | none => rw [hm] at h; simp at h
          | some m => rw [hm] at h; exact ⟨m, rfl, h⟩
    · exact .inr ⟨e', by simp [h1], h2, h3⟩

theorem masksGo_ahead (arr : Array Oper) : ∀ (os : List Oper) (acc : List Nat), (∀ i o, os[i]? = some o → arr[acc.length + i]? = some o) →
    (∀ i m, acc[i]? = some m → ∀ j, Nat.testBit m j = true → Ahead arr j i) → ∀ i m, (masksGo os acc)[i]? = some m → ∀ j, Nat.testBit m j = true → Ahead arr j i
  | [], acc, _, h => h
  | o :: os, acc, hg, h => by
    refine masksGo_ahead arr os (acc ++ [mask acc o]) (fun i o' ho => ?_) (fun i m hm j hj => ?_)
    · have := hg (i + 1) o' (by simpa using ho)
      simpa [Nat.add_assoc, Nat.add_comm 1 i] using this
    · rcases Nat.lt_or_ge i acc.length with hi | hi
      · rw [List.getElem?_append_left hi] at hm; exact h i m hm j hj
      · rw [List.getElem?_append_right hi] at hm
        have hi0 : i = acc.length := by
          rcases Nat.eq_or_lt_of_le hi with e | e
          · exact e.symm
          · rw [List.getElem?_eq_none (by simp; omega)] at hm; cases hm
        subst hi0
        simp at hm
        subst hm
        intro listed hd hl
        have ho : arr[acc.length]? = some o := by simpa using hg 0 o (by simp)
        rcases mask_bits o.after.toList 0 j hj with h0 | ⟨e, h1, h2, h3⟩
        · simp at h0
        · have he : listed[e.on]? = some true := by
            rcases hl with hl | hl
            · exact hd _ o hl ho e (by simpa using h1) h2
            · exact hl o ho e (by simpa using h1) h2
          rcases h3 with rfl | ⟨m, h4, h5⟩
          · exact he
          · exact h _ m h4 j h5 listed hd (.inl he)

theorem pre_ahead (h : arr.toList = ops) {j i : Nat} (hp : pre (masks ops) j i = true) : Ahead arr j i := by
  unfold pre at hp
  rw [getAll_eq] at hp
  cases hm : (masks ops)[i]? with
  | none => rw [hm] at hp; cases hp
  | some m =>
    rw [hm] at hp
    refine masksGo_ahead arr ops [] (fun i o ho => ?_) (by simp) i m hm j hp
    rw [← h] at ho; simpa using ho

theorem ready_mem {i : Nat} (h : i ∈ Region.ready .any arr listed) (hl : listed.size = arr.size) : i < arr.size ∧ listed[i]? = some false ∧ Free arr listed i := by
  unfold Region.ready at h
  simp only [List.mem_filter, List.mem_range, Bool.and_eq_true] at h
  obtain ⟨h1, h2, h3⟩ := h
  have hi : i < listed.size := by omega
  refine ⟨h1, ?_, ?_⟩
  · rw [Array.getElem?_eq_getElem hi]
    simp [Array.getElem?_eq_getElem hi] at h2
    simpa using h2
  · intro o ho e he hb
    rw [ho] at h3
    simp only [Option.map_some, Option.getD_some] at h3
    rw [Array.all_eq_true'] at h3
    have := h3 e he
    simp only [hb, Bool.not_true, Bool.false_or] at this
    cases hx : listed[e.on]? with
    | none => simp [hx] at this
    | some b => simp [hx] at this; rw [this]

theorem backward_lt : ∀ (os : List Oper) (k : Nat), backward os k = true → ∀ i o, os[i]? = some o → ∀ e ∈ o.after, Region.binds .any e = true → e.on < k + i
  | [], _, _, i, o, h, _, _, _ => by simp at h
  | o :: os, k, hb, i, o', h, e, he, hbi => by
    simp only [backward, Bool.and_eq_true] at hb
    cases i with
    | zero =>
      simp at h; subst h
      have := List.all_eq_true.1 hb.1 e (by simpa using he)
      rw [hbi] at this
      have := nble_le this
      omega
    | succ i =>
      have := backward_lt os (k + 1) hb.2 i o' (by simpa using h) e he hbi
      omega

/-- As long as not all are listed, one is ready. -/
theorem ready_some (h : arr.toList = ops) (hb : backward ops 0 = true) (hl : listed.size = arr.size) (hr : Region.ready .any arr listed = []) : ∀ i, i < arr.size → listed[i]? = some true := by
  intro i
  induction i using Nat.strongRecOn with
  | _ i ih =>
    intro hi
    have hil : i < listed.size := by omega
    cases hx : listed[i] with
    | true => rw [Array.getElem?_eq_getElem hil, hx]
    | false =>
      exfalso
      have : i ∈ Region.ready .any arr listed := by
        unfold Region.ready
        simp only [List.mem_filter, List.mem_range, Bool.and_eq_true]
        refine ⟨hi, by simp [Array.getElem?_eq_getElem hil, hx], ?_⟩
        rw [Array.getElem?_eq_getElem hi]
        simp only [Option.map_some, Option.getD_some, Array.all_eq_true']
        intro e he
        cases hbi : Region.binds .any e with
        | false => rfl
        | true =>
          have ho : ops[i]? = some arr[i] := by rw [← h]; simp [Array.getElem?_eq_getElem hi]
          have hlt := backward_lt ops 0 hb i _ ho e he hbi
          have := ih e.on (by omega) (by omega)
          simp [this]
      rw [hr] at this; cases this

theorem go_cons {fuel t : Nat} {i : Nat} (hi : (Region.ready .any arr listed)[t % (Region.ready .any arr listed).length]? = some i) :
    Region.linearise.go .any arr (fuel + 1) t listed [] = i :: Region.linearise.go .any arr fuel (t / (Region.ready .any arr listed).length) (listed.setIfInBounds i true) [] := by
  conv => lhs; unfold Region.linearise.go
  change (match (Region.ready .any arr listed)[t % (Region.ready .any arr listed).length]? with
      | some i => Region.linearise.go .any arr fuel (t / (Region.ready .any arr listed).length) (listed.setIfInBounds i true) [i]
      | none => [].reverse) = _
  rw [hi]
  simp only
  rw [linearise_go_acc]
  rfl

theorem go_nil {fuel t : Nat} (hr : Region.ready .any arr listed = []) : Region.linearise.go .any arr fuel t listed [] = [] := by
  cases fuel with
  | zero => simp [Region.linearise.go]
  | succ fuel =>
    unfold Region.linearise.go
    change (match (Region.ready .any arr listed)[t % (Region.ready .any arr listed).length]? with
        | some i => Region.linearise.go .any arr fuel (t / (Region.ready .any arr listed).length) (listed.setIfInBounds i true) [i]
        | none => [].reverse) = _
    rw [hr]; rfl

theorem unlisted_set {i : Nat} (h : listed[i]? = some false) : unlisted (listed.setIfInBounds i true) + 1 = unlisted listed := by
  unfold unlisted
  obtain ⟨hi, hf⟩ := Array.getElem?_eq_some_iff.1 h
  have h' : listed.toList[i]? = some false := by simpa using h
  rw [Array.toList_setIfInBounds]
  have key : ∀ (l : List Bool) (i : Nat), l[i]? = some false → ((l.set i true).filter (! ·)).length + 1 = (l.filter (! ·)).length := by
    intro l
    induction l with
    | nil => intro i h; simp at h
    | cons b l ih =>
      intro i h
      cases i with
      | zero => simp at h; subst h; simp
      | succ i =>
        have := ih i (by simpa using h)
        cases b <;> simp at this ⊢ <;> omega
  exact key _ _ h'

/-- What comes next in such an order: the end, or one that is ready. -/
theorem go_cases (h : arr.toList = ops) (hb : backward ops 0 = true) (hl : listed.size = arr.size) {fuel t : Nat} (hf : unlisted listed ≤ fuel) :
    (Region.linearise.go .any arr fuel t listed [] = [] ∧ ∀ i, i < arr.size → listed[i]? = some true) ∨
    ∃ i fuel' t', i ∈ Region.ready .any arr listed ∧ Region.linearise.go .any arr fuel t listed [] = i :: Region.linearise.go .any arr fuel' t' (listed.setIfInBounds i true) [] ∧
      unlisted (listed.setIfInBounds i true) ≤ fuel' := by
  cases hr : Region.ready .any arr listed with
  | nil => exact .inl ⟨go_nil hr, ready_some h hb hl hr⟩
  | cons x xs =>
    have hx : x ∈ Region.ready .any arr listed := by rw [hr]; simp
    have hpos : 0 < unlisted listed := by
      have := unlisted_set (ready_mem hx hl).2.1; omega
    cases fuel with
    | zero => omega
    | succ fuel =>
      have hlt : t % (Region.ready .any arr listed).length < (Region.ready .any arr listed).length := Nat.mod_lt _ (by rw [hr]; simp)
      have hi := List.getElem?_eq_getElem hlt
      have hmem : (Region.ready .any arr listed)[t % (Region.ready .any arr listed).length] ∈ Region.ready .any arr listed := List.getElem_mem hlt
      rw [← hr]
      refine .inr ⟨_, fuel, _, hmem, go_cons hi, ?_⟩
      have := unlisted_set (ready_mem hmem hl).2.1
      omega

theorem writerGo_some : ∀ (os : List Oper) (t k j : Nat), writerGo t os k = some j → ∃ i o, j = k + i ∧ os[i]? = some o ∧ o.dst = some t
  | [], _, _, _, h => by simp [writerGo] at h
  | o :: os, t, k, j, h => by
    simp only [writerGo] at h
    split at h
    · rename_i hd
      simp at h
      refine ⟨0, o, by omega, by simp, ?_⟩
      cases ho : o.dst with
      | none => rw [ho] at hd; cases hd
      | some d => rw [ho] at hd; rw [nbeq_eq hd]
    · obtain ⟨i, o', h1, h2, h3⟩ := writerGo_some os t (k + 1) j h
      exact ⟨i + 1, o', by omega, by simpa using h2, h3⟩

theorem writerGo_none : ∀ (os : List Oper) (t k : Nat), writerGo t os k = none → ∀ (i : Nat) (o : Oper), os[i]? = some o → o.dst ≠ some t
  | [], _, _, _, i, o, h => by simp at h
  | o :: os, t, k, h, i, o', ho => by
    simp only [writerGo] at h
    split at h
    · cases h
    · rename_i hd
      cases i with
      | zero =>
        simp at ho; subst ho
        intro e; rw [e] at hd; simp at hd
      | succ i => exact writerGo_none os t (k + 1) h i o' (by simpa using ho)

theorem distinct_spec : ∀ (ds : List (Option Tmp)), distinct ds = true → ∀ (i j : Nat) (d : Tmp), ds[i]? = some (some d) → ds[j]? = some (some d) → i = j
  | [], _, i, _, _, h, _ => by simp at h
  | x :: ds, hd, i, j, d, hi, hj => by
    have hrest : distinct ds = true := by
      cases x <;> simp [distinct] at hd
      · exact hd
      · exact hd.2
    have hnot : x = some d → ∀ k : Nat, ds[k]? ≠ some (some d) := by
      rintro rfl k hk
      simp only [distinct, Bool.and_eq_true, Bool.not_eq_true'] at hd
      have := List.any_eq_false.1 hd.1 (some d) (List.mem_of_getElem? hk)
      simp at this
    cases i with
    | zero =>
      simp at hi
      cases j with
      | zero => rfl
      | succ j => exact absurd (by simpa using hj) (hnot hi j)
    | succ i =>
      cases j with
      | zero => simp at hj; exact absurd (by simpa using hi) (hnot hj i)
      | succ j =>
        have := distinct_spec ds hrest i j d (by simpa using hi) (by simpa using hj)
        omega

theorem writer_unique (hd : distinct (ops.map (·.dst)) = true) {t i j : Nat} {o : Oper} (hw : writer ops t = some j) (ho : ops[i]? = some o) (hdst : o.dst = some t) : i = j := by
  obtain ⟨j', o', h1, h2, h3⟩ := writerGo_some ops t 0 j hw
  have : j = j' := by omega
  subst this
  exact distinct_spec _ hd i j t (by simp [ho, hdst]) (by simp [h2, h3])

theorem mem_chainOf : ∀ (os : List Oper) (k c : Nat), c ∈ chainOf os k ↔ ∃ i o, c = k + i ∧ os[i]? = some o ∧ isMov o = false
  | [], k, c => by simp [chainOf]
  | o :: os, k, c => by
    simp only [chainOf]
    have ih := mem_chainOf os (k + 1) c
    cases hm : isMov o with
    | true =>
      simp only
      rw [ih]
      constructor
      · rintro ⟨i, o', h1, h2, h3⟩; exact ⟨i + 1, o', by omega, by simpa using h2, h3⟩
      · rintro ⟨i, o', h1, h2, h3⟩
        cases i with
        | zero => simp at h2; subst h2; rw [hm] at h3; cases h3
        | succ i => exact ⟨i, o', by omega, by simpa using h2, h3⟩
    | false =>
      simp only [List.mem_cons]
      rw [ih]
      constructor
      · rintro (rfl | ⟨i, o', h1, h2, h3⟩)
        · exact ⟨0, o, by omega, by simp, hm⟩
        · exact ⟨i + 1, o', by omega, by simpa using h2, h3⟩
      · rintro ⟨i, o', h1, h2, h3⟩
        cases i with
        | zero => exact .inl (by omega)
        | succ i => exact .inr ⟨i, o', by omega, by simpa using h2, h3⟩

theorem mem_movOf : ∀ (os : List Oper) (k i : Nat) (o : Oper), os[i]? = some o → isMov o = true → k + i ∈ movOf os k
  | [], _, _, _, h, _ => by simp at h
  | o :: os, k, i, o', h, hm => by
    simp only [movOf]
    cases i with
    | zero => simp at h; subst h; simp [hm]
    | succ i =>
      have := mem_movOf os (k + 1) i o' (by simpa using h) hm
      have e : k + 1 + i = k + (i + 1) := by omega
      rw [e] at this
      split
      · exact List.mem_cons_of_mem _ this
      · exact this

theorem linked_pre {ms : List Nat} : ∀ (l : List Nat), linked ms l = true → ∀ (pre' : List Nat) (a b : Nat) (post : List Nat), l = pre' ++ a :: b :: post → pre ms a b = true
  | [], _, p, a, b, q, e => by simp at e
  | [x], _, p, a, b, q, e => by
    have := congrArg List.length e
    simp at this
    omega
  | x :: y :: l, h, p, a, b, q, e => by
    simp only [linked, Bool.and_eq_true] at h
    cases p with
    | nil => simp at e; obtain ⟨rfl, rfl, _⟩ := e; exact h.1
    | cons z p => simp at e; exact linked_pre (y :: l) h.2 p a b q e.2
end static
end Go.Ex

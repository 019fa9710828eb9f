/- The law ScriptNames answers true: the tied card. -/
import Derived.Test.YtpnfkkoflppkhaaGreatDoorSnProofs
import Derived.Test.YtpnfkkoflppkhaaGreatDoorCards
import Derived.Test.YtpnfkkoflppkhaaGreatDoorTieRow
import Derived.SevenTiedAt
namespace Go.Proofs.YtpnfkkoflppkhaaGreatDoor
open Go

/-- A tied card without a companion of a law whose text may start goroutines. -/
theorem holds_tied_goes (Lk : Looks) {p : Pinned} {s : OpenSpec} {c : OpenClaim} (kinds : List LaidKind) (tests : Bool) (har : Bool × String) (lk g : Bool)
    (hc : c.holds p s) (hw : c.wfByText s = true) (htie : c.laidByTextAt Lk p kinds tests)
    (hst : c.start = .entering) (hnb : c.noBlocks = false ∧ c.again = false) (hm : p.checked.prog.mainIs = some (har.1, har.2.toList)) (hn : (!har.1 && har.2.isEmpty && !lk) = false)
    (hl : ∀ f fn, p.checked.prog.funcNamed c.func = some f → p.checked.prog.funcs[f]? = some fn → lk = p.checked.prog.looks [] ∧ ∀ (j : Nat) t, fn.params[j]? = some t → p.checked.prog.wantsStandIn t = false)
    (hg : g = c.goesBy p.checked.prog) :
    Claim7.holds p (.plain s) { stood := { row := c, standIns := [], harness := har, looks := lk }, kinds := [], alts := [], goes := g, laidByText := true, laidKinds := kinds, laidTests := tests, laidLooks := Lk } := by
  have h6 : Claim7.isSixth { stood := { row := c, standIns := [], harness := har, looks := lk }, kinds := [] } = false := by simpa [Claim7.isSixth] using hn
  have hnew := Claim7.tied_new_at Lk kinds tests (Claim7.new_of_sixth hc har lk hst hnb hm h6 hl) hw
  have h6' : Claim7.isSixth { stood := { row := c, standIns := [], harness := har, looks := lk }, kinds := [], goes := g, laidByText := true, laidKinds := kinds, laidTests := tests, laidLooks := Lk } = false := by simp [Claim7.isSixth]
  refine ⟨?_, fun D hD => by (cases hD), htie, (fun h => by cases h), hg⟩
  unfold Claim7.holdsOne
  rw [h6']
  exact hnew

theorem goes168 : Tryz.f168.goes = true := by kernel_rfl
theorem anyGoes : Tryz.prog.funcs.any Func.goes = true :=
  Array.any_eq_true'.2 ⟨Tryz.f168, Array.mem_of_getElem? Tryz.func168, goes168⟩
theorem any_of {a b c : Bool} (h : b = true) (h2 : c = true) : (a || (b && c)) = true := by rw [h, h2]; cases a <;> rfl
theorem or_of {a b : Bool} (h : a = true) : (a || b) = true := by rw [h]; rfl
theorem opt_of {o : Option Nat} {k : Nat} {p : Nat → Bool} (h : o = some k) (hp : p k = true) : o.any p = true := by rw [h]; exact hp
theorem goes3 : Tryz.prog.goes 3 = true := any_of (eq_of_beq fact10).symm anyGoes
theorem named3 : Tryz.prog.funcNamed "surd/surdlaw29.ScriptNames" = some 3 := by kernel_rfl
theorem goesFrom3 : Tryz.prog.goesFrom "surd/surdlaw29.ScriptNames" = true := opt_of named3 goes3
theorem goesBy_of {c : OpenClaim} {P : Program} {n : String} (hn : c.func = n) (h : P.goesFrom n = true) : true = c.goesBy P := by
  subst hn
  unfold OpenClaim.goesBy Program.goesAt
  rw [h]
  rfl
theorem funcName : Rows.scriptNamesRow.func = "surd/surdlaw29.ScriptNames" := rfl
theorem cardGoes : true = Rows.scriptNamesRow.goesBy Tryz.prog := goesBy_of funcName goesFrom3

theorem names_card : Rows.ScriptNamesCardSaid :=
  holds_tied_goes .later [.pinned, .data, .sentinel, .sentinel, .data, .data, .data, .data] true (true, "c4a999b0c66edb1fc1939d487e0f685670efc4c99b277a69db8fe85305c12e2a") true true
    names_holds (by kernel_rfl) scriptNames_row_tie rfl ⟨rfl, rfl⟩ (by kernel_rfl) rfl
    (fun f fn hf hfn => by
      obtain rfl : f = 3 := Option.some.inj (named3.symm.trans hf) |>.symm
      obtain rfl : fn = Tryz.f3 := (Option.some.inj (Tryz.func3.symm.trans hfn)).symm
      exact ⟨by kernel_rfl, fun j t ht => by
        rw [Tryz.params3] at ht
        simp at ht⟩)
    cardGoes
#print axioms names_card
end Go.Proofs.YtpnfkkoflppkhaaGreatDoor

/- The law ScriptNames answers true. -/
import Derived.Test.YtpnfkkoflppkhaaGreatDoorRows
import Derived.Test.YtpnfkkoflppkhaaGreatDoorSnRun
import Derived.Test.YtpnfkkoflppkhaaGreatDoorExRow
import Derived.Test.YtpnfkkoflppkhaaGreatDoorFacts
import Derived.ProofKit
import Derived.Lay
import Derived.LaidMore
import Derived.Stop.Joined
namespace Go.Proofs.YtpnfkkoflppkhaaGreatDoor
open Go Go.Ex Go.ChangeShapes Go.WideShapes Go.ChangeAt Go.RowKit Go.Conc Go.ConcM

theorem own : ownKnob Tryz.prog.godebug = none := by kernel_rfl

theorem names_calls {W : World} (h : laidMetH Tryz.prog Rows.scriptNamesRow.laid W) :
    Calls Tryz.prog 3 #[] W fun e w' => e = .returned (.bool true) ∧ (∀ i, i < W.heap.size → w'.heap[i]? = W.heap[i]?) ∧ W.heap.size ≤ w'.heap.size ∧ w'.tape = W.tape ∧ w'.os = W.os ∧ w'.output = W.output := by
  rw [MakeChecks.laidMetH_plain _ _ _ (by kernel_rfl)] at h
  obtain ⟨c8, e8, h8, t8⟩ := laid_block h (n := "surd/expr.rows") (d := Rows.laid_surd_expr_rows) (g := 8) (t := 336) (by simp [Rows.scriptNamesRow]) (by kernel_rfl) (by kernel_rfl) (k := 8) (vs := tabRows) (by kernel_rfl) (by decide)
  obtain ⟨c5, e5, h5, t5⟩ := laid_block h (n := "math/bits.deBruijn64tab") (d := Rows.laid_math_bits_deBruijn64tab) (g := 5) (t := 297) (by simp [Rows.scriptNamesRow]) (by kernel_rfl) (by kernel_rfl) (k := 8) (vs := tabBruijn) (by kernel_rfl) (by decide)
  obtain ⟨c1, e1, h1, t1⟩ := laid_block h (n := "internal/strconv.uint64pow10") (d := Rows.laid_internal_strconv_uint64pow10) (g := 1) (t := 150) (by simp [Rows.scriptNamesRow]) (by kernel_rfl) (by kernel_rfl) (k := 8) (vs := tabPow) (by kernel_rfl) (by decide)
  have hsz : 9 ≤ W.heap.size := by
    obtain ⟨hlt, _⟩ := Array.getElem?_eq_some_iff.1 h8
    exact hlt
  have R : HRel E W (ren0 9) (size0 W) H0 W := hrel0 hsz (Nat.le_refl _) (Nat.le_refl _) fun b o hb => by
    have hm := T.mem_toL heap0 b o hb
    rw [heap0L] at hm
    simp only [List.mem_cons, List.mem_nil_iff, or_false, Prod.mk.injEq] at hm
    rcases hm with ⟨rfl, rfl⟩ | ⟨rfl, rfl⟩ | ⟨rfl, rfl⟩
    · exact ⟨by decide, _, h8, table_rel t8 (by kernel_rfl)⟩
    · exact ⟨by decide, _, h1, table_rel t1 (by kernel_rfl)⟩
    · exact ⟨by decide, _, h5, table_rel t5 (by kernel_rfl)⟩
  exact calls_bool (envOk Tryz.checked.mixed) R names_run

-- imports too: Derived.Lay (World.laidAll, laidMet_laidAll, World.shaped_of_ZipB: see Derived/Test/PindigProofs.lean)
set_option maxRecDepth 100000 in
theorem lifted (os : Os) (started : os.Started) (H : Type) (enc : TypeId × Value → H) (F : Stop.Interp) :
    ReturnsInLeavingWide Rows.scriptNamesRow.assume Tryz.checked os 3 .any
      (fun w args => (Rows.scriptNamesSpec.pre enc Tryz.prog Tryz.f3 [] false w args ∧ laidMetH Tryz.prog Rows.scriptNamesRow.laid w) ∧ sizedMet enc Tryz.prog Tryz.f3 (OpenSpec.ofChange Rows.scriptNamesSpec) false w args)
      ((OpenSpec.ofChange Rows.scriptNamesSpec).postWith enc Tryz.prog Tryz.f3 F (outsideKept [.timePasses]) false true false) := by
  refine leaving_time_and (C := Tryz.checked) (X := fun w _ => laidMetH Tryz.prog Rows.scriptNamesRow.laid w) (fun _ _ _ hh h => h.of_heap hh) own started Tryz.func3
    (witness_calm (enc := enc) (C := Tryz.checked) (os := os) (X := fun w _ => laidMetH Tryz.prog Rows.scriptNamesRow.laid w) (World.laidAll Tryz.prog os Rows.scriptNamesRow.laid) #[] 8 (World.laidAll_os _ _ _) (World.shaped_of_ZipB (by kernel_rfl) (by kernel_rfl)) (by kernel_rfl) (by kernel_rfl) (by kernel_rfl)
      (by rw [MakeChecks.laidMetH_plain _ _ _ (by kernel_rfl)]; exact laidMet_laidAll _ (by kernel_rfl) (by kernel_rfl))) ?_
  intro W base args ds gs before _ hW _ hL _
  have hW' := hW
  obtain ⟨p, q, hA0, hV, rfl, _, _⟩ := hW
  have hA : DataW.TrodAll enc Tryz.prog W 0 (fun _ => true) true Tryz.f3.params.toList args.toList ds p := hA0
  rw [Tryz.params3] at hA
  obtain ⟨rfl, rfl, rfl⟩ := trodAll_none hA
  obtain ⟨rfl, rfl⟩ := trodVars_none hV
  refine good_of_calls (by kernel_rfl) ((names_calls hL).mono fun e w' ⟨he, h1, h2, h3, h4, h5⟩ => ⟨.bool true, he, ?_, by rw [h4]; exact OsLater.refl _⟩)
  have hbel : Below W.heap.size W { w' with os := W.os } := ⟨rfl, h3, h5, h2, h1⟩
  exact ⟨_, _, _, [], [], [], hW', trodAll_mk1 (shut_bool Tryz.underlying4 _), trodAll_mk0, rfl, hbel.frame _, fun h => by cases h⟩
theorem names_holds : Rows.ScriptNamesSaid :=
  OpenClaim.holds_of_wide_leaving_time 3 Tryz.f3 rfl rfl rfl rfl rfl rfl rfl ⟨rfl, rfl, rfl, rfl, rfl⟩ rfl rfl rfl rfl rfl (by kernel_rfl) Tryz.func3 closed
    (of_decide_eq_true (by kernel_rfl)) (by unfold Func.isWrapper; first | (rw [if_pos (by decide +kernel)]; kernel_rfl) | (rw [if_neg (by decide +kernel)]; exact ⟨rfl, rfl⟩))
    (fun os started H enc _ F => lifted os started H enc F)
end Go.Proofs.YtpnfkkoflppkhaaGreatDoor

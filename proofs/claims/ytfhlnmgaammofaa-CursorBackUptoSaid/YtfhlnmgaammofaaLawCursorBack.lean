/- Proved: CursorBack answers true for every list of things of bulk at most 1048576, and the argument reads behind the call as it read before. -/
import Derived.Test.YtfhlnmgaammofaaRows
import Derived.Test.YtfhlnmgaammofaaB3
import Derived.WalkKit
import Derived.ProofKit
import Derived.OpenShut
import Derived.ShutString
import Derived.ChangeOld
import Derived.Below
import Derived.JoinedCond
namespace Go.Proofs.Ytfhlnmgaammofaa.cursorBack
open Go.ChangeShapes Go.WideShapes Go.ChangeAt Go.RowKit
open Go.ChangeMaps (open_string shut_string)
set_option linter.unusedVariables false
theorem own : ownKnob Try.prog.godebug = none := by kernel_rfl
theorem laidOut : laidOutB Try.prog = true := by kernel_rfl
set_option maxRecDepth 100000 in
theorem lifted (os : Os) (started : os.Started) (H : Type) (enc : TypeId × Value → H) (F : Stop.Interp) :
    ReturnsInHanded {} Try.checked os 8 .any ((Rows.OpenSpec.upto Rows.cursorBackSpec).pre6 enc Try.prog Try.f8 Rows.cursorBackUptoRow.domain false) (((Rows.OpenSpec.upto Rows.cursorBackSpec).at F).post enc Try.prog Try.f8 false true false false) := by
  refine returnsInHanded_of_cond (C := Try.checked) (s := Rows.OpenSpec.upto Rows.cursorBackSpec) (k := Rows.uptoSmall) rfl own started (by kernel_rfl) Try.func8
    (OpenSpec.witness (enc := enc) (C := Try.checked) (s := Rows.OpenSpec.upto Rows.cursorBackSpec) (k := Rows.uptoSmall) rfl false ⟨#[], #[.slice none 0 0], []⟩ 8 (by kernel_rfl) (by kernel_rfl) (by kernel_rfl)
      (x := ([.nil], [], [])) (by kernel_rfl) rfl (by kernel_rfl)) ?_
  intro W base args ds gs before hval0 hW _ hk _
  have hval : ∀ (j : Nat) t v, Try.f8.params[j]? = some t → args[j]? = some v → Value.okWide Try.prog W .any base t v := hval0
  have hW' := hW
  obtain ⟨p, q, hA0, hV, rfl, hfz, hnd⟩ := hW
  have hA : DataW.TrodAll enc Try.prog W 0 (fun _ => true) true Try.f8.params.toList args.toList ds p := hA0
  rw [Try.params8] at hA hval
  obtain ⟨v1, vs1, d1, ds1, p1, q1, hargs, rfl, rfl, h1, r1⟩ := trodAll_cons hA
  obtain ⟨rfl, rfl, rfl⟩ := trodAll_nil r1
  obtain rfl : args = #[v1] := by cases args; simp_all
  obtain ⟨rfl, rfl⟩ := trodVars_none hV
  obtain ⟨a1, len1, cap1, rfl⟩ := okWide_slice Try.underlying47 (hval 0 47 v1 rfl rfl)
  have k1 := h1
  have lt1 : ∀ x ∈ p1, x.block < W.heap.size := by obtain ⟨m, hm⟩ := k1; exact DataW.trod_lt m _ _ _ hm
  have hb : Rows.uptoBulkAll [d1] ≤ 1048576 := of_decide_eq_true hk
  have hb1 : Rows.uptoBulk d1 ≤ 1048576 := by simp only [Rows.uptoBulkAll] at hb; omega
  obtain ⟨l1, hl1, hc1, hr1, hm1⟩ : ∃ l : List Q.S52, len1 = l.length ∧ l.length ≤ cap1 ∧ YtfhlnmgaammofaaW.PrintWords.Kd.C Q.k52 W a1 l.length l ∧ Rd.sum (fun x : Q.S52 => x.f2.size + 1) l + 1 ≤ Rows.uptoBulk d1 := by
    obtain ⟨fuel, hf⟩ := h1
    obtain ⟨l, ⟨A, c, e, hc, hC⟩, _, hm⟩ := Rd.rd47 _ _ _ _ _ _ _ _ _ hf
    simp [Value.cells] at e
    obtain ⟨rfl, rfl, rfl⟩ := e
    exact ⟨l, rfl, hc, hC, hm⟩
  subst hl1
  clear hA0 hval0
  have hl : l1.length ≤ 1048576 := by have := Rd.sum_len (fun x : Q.S52 => x.f2.size + 1) l1 (fun x => by omega); omega
  obtain ⟨K, hK⟩ := R1.back_true l1 hl (fun t ht => by have := Rd.sum_mem (fun x : Q.S52 => x.f2.size + 1) l1 t ht; omega)
  refine (Q.quipulaw11_CursorBack.calls K a1 cap1 l1 true W hr1 hc1 hK rfl).mono fun e W' ⟨he, bel⟩ => ?_
  subst he
  exact ⟨_, rfl, _, _, _, [], _, [], hW', trodAll_mk1 (shut_bool Try.underlying4 _), (trodAll_cons_mk (Below.trod laidOut (by kernel_rfl) (of_decide_eq_true (by kernel_rfl)) k1 bel lt1) trodAll_mk0), rfl, bel.frame _, fun h => by cases h⟩
theorem proved : Rows.CursorBackUptoSaid :=
  OpenClaim.holds_of_cond 8 Try.f8 rfl rfl rfl rfl rfl rfl rfl ⟨rfl, rfl, rfl, rfl, rfl⟩ rfl rfl rfl rfl rfl (by kernel_rfl) Try.func8 (by kernel_rfl)
    (of_decide_eq_true (by kernel_rfl)) (by unfold Func.isWrapper; first | (rw [if_pos (by decide +kernel)]; kernel_rfl) | (rw [if_neg (by decide +kernel)]; exact ⟨rfl, rfl⟩))
    (fun os started H enc _ F => lifted os started H enc F)
#print axioms proved
end Go.Proofs.Ytfhlnmgaammofaa.cursorBack
namespace Go.Proofs.Ytfhlnmgaammofaa
/-- The row, under a short name, for the claim. -/
theorem cursorBack_holds : Rows.CursorBackUptoSaid := cursorBack.proved
end Go.Proofs.Ytfhlnmgaammofaa

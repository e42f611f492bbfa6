/- Proved: AffixBack answers true for any arguments of bulk at most 1048576, and the arguments read behind the call as they read before. -/
import Derived.Test.YtieipeigjhicfaaRows
import Derived.Test.YtieipeigjhicfaaA8
import Derived.Test.YtieipeigjhicfaaRd
import Derived.WalkKit
import Derived.ProofKit
import Derived.OpenShut
import Derived.ShutString
import Derived.ChangeOld
import Derived.Below
import Derived.JoinedCond
import Derived.HandedShaped
import Derived.SizedLaws
namespace Go.Proofs.Ytieipeigjhicfaa.affixBack
open Go.ChangeShapes Go.WideShapes Go.ChangeAt Go.RowKit
open Go.ChangeMaps (open_string shut_string)
set_option linter.unusedVariables false
theorem own : ownKnob Try.prog.godebug = none := by kernel_rfl
theorem laidOut : laidOutB Try.prog = true := by kernel_rfl
set_option maxRecDepth 100000 in
theorem lifted (os : Os) (started : os.Started) (H : Type) (enc : TypeId × Value → H) (F : Stop.Interp) :
    ReturnsInHanded {} Try.checked os 5 .any ((Rows.OpenSpec.upto Rows.affixBackSpec).pre6 enc Try.prog Try.f5 Rows.affixBackUptoRow.domain false) (((Rows.OpenSpec.upto Rows.affixBackSpec).at F).post enc Try.prog Try.f5 false true false false) := by
  refine Rd.returnsInHanded_of_cond_shaped (C := Try.checked) (s := Rows.OpenSpec.upto Rows.affixBackSpec) (k := Rows.uptoSmall) rfl own started (by kernel_rfl) Try.func5
    (OpenSpec.witness (enc := enc) (C := Try.checked) (s := Rows.OpenSpec.upto Rows.affixBackSpec) (k := Rows.uptoSmall) rfl false ⟨#[], #[.slice none 0 0, .string ⟨#[]⟩], []⟩ 8 (by kernel_rfl) (by kernel_rfl) (by kernel_rfl)
      (x := ([.nil, .lit (.string [])], [], [])) (by kernel_rfl) rfl (by kernel_rfl)) ?_
  intro W base args ds gs before hval0 hW _ hk hsh _
  have HG := Rd.glob_of hsh
  have hval : ∀ (j : Nat) t v, Try.f5.params[j]? = some t → args[j]? = some v → Value.okWide Try.prog W .any base t v := hval0
  have hW' := hW
  obtain ⟨p, q, hA0, hV, rfl, hfz, hnd⟩ := hW
  have hA : DataW.TrodAll enc Try.prog W 0 (fun _ => true) true Try.f5.params.toList args.toList ds p := hA0
  rw [Try.params5] at hA hval
  obtain ⟨v0, vs0, d0, ds0, p0, q0, hargs, rfl, rfl, h0, r0⟩ := trodAll_cons hA
  obtain ⟨v1, vs1, d1, ds1, p1, q1, rfl, rfl, rfl, h1, r1⟩ := trodAll_cons r0
  obtain ⟨rfl, rfl, rfl⟩ := trodAll_nil r1
  obtain rfl : args = #[v0, v1] := by cases args; simp_all
  obtain ⟨rfl, rfl⟩ := trodVars_none hV
  have hb : Rows.uptoBulkAll [d0, d1] ≤ 1048576 := of_decide_eq_true hk
  have hb1 : Rows.uptoBulk d0 ≤ 1048576 ∧ Rows.uptoBulk d1 ≤ 1048576 := by simp only [Rows.uptoBulkAll] at hb; omega
  clear hb hk
  obtain ⟨a0, len0, cap0, rfl⟩ := okWide_slice Try.underlying22 (hval 0 22 v0 rfl rfl)
  have k0 := h0
  have lt0 : ∀ x ∈ p0, x.block < W.heap.size := by obtain ⟨m, hm⟩ := k0; exact DataW.trod_lt m _ _ _ hm
  obtain ⟨l0, hl0, hc0, hr0, hm0⟩ : ∃ l : List Q.S32, len0 = l.length ∧ l.length ≤ cap0 ∧ YtieipeigjhicfaaW.PrintWords.Kd.C Q.k32 W a0 l.length l ∧ Rd.sum (fun x : Q.S32 => x.f2.size + 4) l + 1 ≤ Rows.uptoBulk d0 := by
    obtain ⟨fuel, hf⟩ := h0
    obtain ⟨l, ⟨A, c, e, hc, hC⟩, _, hm⟩ := Rd.rd22 _ _ _ _ _ _ _ _ _ hf
    simp [Value.cells] at e
    obtain ⟨rfl, rfl, rfl⟩ := e
    exact ⟨l, rfl, hc, hC, hm⟩
  subst hl0
  have n0 : l0.length ≤ 1048576 := by have := Rd.sum_len (fun x : Q.S32 => x.f2.size + 4) l0 (fun x => by omega); omega
  have t0 : A.Texts l0 1048576 := fun t ht => by have := Rd.sum_mem (fun x : Q.S32 => x.f2.size + 4) l0 t ht; omega
  obtain ⟨a1, rfl, rfl, rfl, y1⟩ := open_string Try.underlying9 (hval 1 9 v1 rfl rfl) h1
  have n1 : a1.size ≤ 1048576 := by have h_ := hb1; simp [Rows.uptoBulk] at h_; omega
  clear hA0 hval0
  obtain ⟨K, hK⟩ := A.AffixBack_true l0 a1 n0 t0 n1
  refine (Q.quipulaw13_AffixBack.calls K a0 cap0 l0 a1 true W HG hr0 hc0 hK).mono fun e W' ⟨he, bel⟩ => ?_
  subst he
  exact ⟨_, rfl, _, _, _, [], _, [], hW', trodAll_mk1 (shut_bool Try.underlying4 _), (trodAll_cons_mk (Below.trod laidOut (by kernel_rfl) (of_decide_eq_true (by kernel_rfl)) k0 bel lt0) (trodAll_cons_mk (shut_string Try.underlying9 y1) trodAll_mk0)), rfl, bel.frame _, fun h => by cases h⟩
theorem proved : Rows.AffixBackUptoSaid :=
  OpenClaim.holds_of_cond 5 Try.f5 rfl rfl rfl rfl rfl rfl rfl ⟨rfl, rfl, rfl, rfl, rfl⟩ rfl rfl rfl rfl rfl (by kernel_rfl) Try.func5 (by kernel_rfl)
    (of_decide_eq_true (by kernel_rfl)) (by unfold Func.isWrapper; first | (rw [if_pos (by decide +kernel)]; kernel_rfl) | (rw [if_neg (by decide +kernel)]; exact ⟨rfl, rfl⟩))
    (fun os started H enc _ F => lifted os started H enc F)
#print axioms proved
end Go.Proofs.Ytieipeigjhicfaa.affixBack
namespace Go.Proofs.Ytieipeigjhicfaa
/-- The row, under a short name, for the claim. -/
theorem affixBack_holds : Rows.AffixBackUptoSaid := affixBack.proved
end Go.Proofs.Ytieipeigjhicfaa

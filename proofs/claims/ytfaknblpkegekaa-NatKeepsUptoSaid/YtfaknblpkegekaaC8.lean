import Derived.Test.YtfaknblpkegekaaRows
import Derived.ProofKit
import Derived.Deep.SlicePairs
import Derived.Deep.Strs
import Derived.Test.YtfaknblpkegekaaC7
section
namespace Go.Proofs.Ytfaknblpkegekaa.Rd
open Go.RowKit Go.Deep Go.Proofs.Ytfaknblpkegekaa.Q Go.Proofs.YtfaknblpkegekaaW.PrintWords
set_option linter.unusedVariables false
def Rd {α : Type} (d : Kd α) (T : TypeId) (ok : α → Prop) (m : α → Nat) : Prop :=
  ∀ (H : Type) (enc : TypeId × Value → H) (w : World) (base : Nat) (spare : Nat → Bool) (held : Bool) (n : Nat) (cs : List Value) (x : DataW H × List MemPlace),
    DataW.trod enc Try.prog w base spare held n T cs = some x → ∃ p, d.K w p cs ∧ ok p ∧ m p ≤ Rows.uptoBulk x.1
theorem Rd_int {T : TypeId} {k : IntKind} (h : Try.prog.underlying T = some (.int k)) : Rd (Kd.int k) T (fun n => (Lit.int k n).wf = true) (fun _ => 1) := by
  intro H enc w base spare held n cs x hx
  obtain ⟨v, rfl, rfl, hw⟩ := DataW.trod_int h hx
  exact ⟨v, rfl, hw, Nat.le_refl _⟩
def sum {α : Type} (m : α → Nat) : List α → Nat
  | [] => 0
  | x :: l => m x + sum m l
theorem bulk_map {H : Type} {α : Type} (m : α → Nat) (D : Nat → DataW H) : ∀ (ps : List α) (k : Nat), (∀ i p, ps[i]? = some p → m p ≤ Rows.uptoBulk (D (k + i))) →
    sum m ps ≤ Rows.uptoBulkAll ((List.range' k ps.length).map D)
  | [], k, h => by simp [sum]
  | p :: ps, k, h => by
    have h0 := h 0 p rfl
    have ih := bulk_map m D ps (k + 1) (fun i q hq => by have := h (i + 1) q hq; rwa [show k + (i + 1) = k + 1 + i by omega] at this)
    simp only [List.length_cons, List.range'_succ, List.map_cons, sum, Rows.uptoBulkAll]
    rw [Nat.add_zero] at h0
    omega
theorem Rd_slice {α : Type} {d : Kd α} {T e : TypeId} {ok : α → Prop} {m : α → Nat} (h : Try.prog.underlying T = some (.slice e)) (hs : Try.prog.cellsOf e = d.sz) (hd : Rd d e ok m) :
    Rd (Kd.slice e d) T (fun xs => ∀ x ∈ xs, ok x) (fun xs => sum m xs + 1) := by
  intro H enc w base spare held n cs x hx
  rcases open_slice h hx with ⟨rfl, rfl⟩ | ⟨a, len, cap, mm, n2, D, Pl, rfl, hb, hl, hm, hmm, rfl, hel⟩
  · exact ⟨[], ⟨none, 0, rfl, Nat.le_refl _, rfl, by simp, fun hn => absurd hn (by simp)⟩, by simp, by simp [sum, Rows.uptoBulk]⟩
  · have hlm : len ≤ mm := by rw [hmm]; split <;> omega
    have each : ∀ i, i < len → ∃ p, (∃ c, c.length = d.sz ∧ d.K w p c ∧ ∀ j u, c[j]? = some u → w.cell? (a.add (i * d.sz + j)) = some u) ∧ ok p ∧ m p ≤ Rows.uptoBulk (D i) := fun i hi => by
      obtain ⟨cs', h1, h2⟩ := hel i (by omega)
      obtain ⟨p, hk, ho, hb2⟩ := hd H enc w base spare held n2 cs' _ h2
      obtain ⟨_, hlen, hcell⟩ := World.cells?_some h1
      refine ⟨p, ⟨cs', by rw [hlen, hs], hk, fun j u hj => ?_⟩, ho, hb2⟩
      have hjl : j < cs'.length := (List.getElem?_eq_some_iff.1 hj).1
      have := hcell j (by omega)
      rw [Deep.add_add, hs] at this
      rw [this, hj]
    have mk : ∀ k, k ≤ len → ∃ ps : List α, ps.length = k ∧ ∀ i p, ps[i]? = some p → (∃ c, c.length = d.sz ∧ d.K w p c ∧ ∀ j u, c[j]? = some u → w.cell? (a.add (i * d.sz + j)) = some u) ∧ ok p ∧ m p ≤ Rows.uptoBulk (D i) := fun k => by
      induction k with
      | zero => exact fun _ => ⟨[], rfl, fun i p hp => by simp at hp⟩
      | succ k ih =>
        intro hk
        obtain ⟨ps, hl2, hp⟩ := ih (by omega)
        obtain ⟨p, hpp⟩ := each k (by omega)
        refine ⟨ps ++ [p], by simp [hl2], fun i q hq => ?_⟩
        by_cases c : i < ps.length
        · rw [List.getElem?_append_left c] at hq; exact hp i q hq
        · rw [List.getElem?_append_right (by omega)] at hq
          have : i - ps.length = 0 := by
            have := (List.getElem?_eq_some_iff.1 hq).1; simp at this; omega
          rw [this] at hq; simp at hq; subst hq
          have : i = k := by omega
          subst this; exact hpp
    obtain ⟨ps, hlen, hps⟩ := mk len (Nat.le_refl _)
    subst hlen
    refine ⟨ps, ⟨some a, cap, rfl, hl, rfl, by unfold maxLen at hm; omega, fun _ => ⟨a, rfl, fun j p hj => (hps j p hj).1⟩⟩, fun p hp => ?_, ?_⟩
    · obtain ⟨i, hi, rfl⟩ := List.getElem_of_mem hp
      exact (hps i _ (List.getElem?_eq_getElem hi)).2.1
    · have := bulk_map m D ps 0 (fun i p hp => by rw [Nat.zero_add]; exact (hps i p hp).2.2)
      simp only [Rows.uptoBulk, List.range_eq_range'] at this ⊢
      omega
theorem Rd_wf {x : Int} (h : (Lit.int .u64 x).wf = true) : 0 ≤ x ∧ x < 18446744073709551616 := by
  simp [Lit.wf, IntKind.min, IntKind.max, IntKind.signed, IntKind.bits] at h
  omega
theorem rd22 : Rd (Kd.slice 46 (Kd.int .u64)) 22 (fun xs => ∀ x ∈ xs, (Lit.int .u64 x).wf = true) (fun xs => sum (fun _ => 1) xs + 1) := Rd_slice Try.underlying22 (by kernel_rfl) (Rd_int Try.underlying46)
theorem sum_one {α : Type} : ∀ l : List α, sum (fun _ => 1) l = l.length
  | [] => rfl
  | x :: l => by simp only [sum, List.length_cons, sum_one l]; omega
end Go.Proofs.Ytfaknblpkegekaa.Rd
end

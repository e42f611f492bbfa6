/- What an argument's reading tells of the cells: slices of structs of whole numbers and texts, read as lists. -/
import Derived.Test.YtfhlnmgaammofaaRows
import Derived.Test.YtfhlnmgaammofaaQx0
import Derived.ProofKit
import Derived.Deep.SlicePairs
import Derived.Deep.Strs
namespace Go.Proofs.Ytfhlnmgaammofaa.Rd
open Go.RowKit Go.Deep Go.Proofs.Ytfhlnmgaammofaa.Q Go.Proofs.YtfhlnmgaammofaaW.PrintWords
set_option linter.unusedVariables false
/-- Whatever a type's cells read as, they are the cells of some p that is as it should be, and no larger than what is read. -/
def Rd {α : Type} (d : Kd α) (T : TypeId) (ok : α → Prop) (m : α → Nat) : Prop :=
  ∀ (H : Type) (enc : TypeId × Value → H) (w : World) (base : Nat) (spare : Nat → Bool) (held : Bool) (n : Nat) (cs : List Value) (x : DataW H × List MemPlace),
    DataW.trod enc Try.prog w base spare held n T cs = some x → ∃ p, d.K w p cs ∧ ok p ∧ m p ≤ Rows.uptoBulk x.1
theorem Rd_int {T : TypeId} {k : IntKind} (h : Try.prog.underlying T = some (.int k)) : Rd (Kd.int k) T (fun n => (Lit.int k n).wf = true) (fun _ => 1) := by
  intro H enc w base spare held n cs x hx
  obtain ⟨v, rfl, rfl, hw⟩ := DataW.trod_int h hx
  exact ⟨v, rfl, hw, Nat.le_refl _⟩
theorem Rd_string {T : TypeId} (h : Try.prog.underlying T = some .string) : Rd Kd.string T (fun s => s.size ≤ maxLen) (fun s => s.size + 1) := by
  intro H enc w base spare held n cs x hx
  obtain ⟨s, rfl, rfl, hw⟩ := DataW.trod_string h hx
  refine ⟨s, rfl, hw, ?_⟩
  simp [Rows.uptoBulk]
/-- Sizes added up. -/
def sum {α : Type} (m : α → Nat) : List α → Nat
  | [] => 0
  | x :: l => m x + sum m l
theorem bulk_map {H : Type} {α : Type} (m : α → Nat) (D : Nat → DataW H) : ∀ (ps : List α) (k : Nat), (∀ i p, ps[i]? = some p → m p ≤ Rows.uptoBulk (D (k + i))) →
    sum m ps ≤ Rows.uptoBulkAll ((List.range' k ps.length).map D)
  | [], k, h => by simp [sum]
  | p :: ps, k, h => by
    have h0 := h 0 p rfl
    have ih := bulk_map m D ps (k + 1) (fun i q hq => by have := h (i + 1) q hq; rwa [show k + (i + 1) = k + 1 + i by omega] at this)
    simp only [List.length_cons, List.range'_succ, List.map_cons, sum, Rows.uptoBulkAll]
    rw [Nat.add_zero] at h0
    omega
theorem Rd_slice {α : Type} {d : Kd α} {T e : TypeId} {ok : α → Prop} {m : α → Nat} (h : Try.prog.underlying T = some (.slice e)) (hs : Try.prog.cellsOf e = d.sz) (hd : Rd d e ok m) :
    Rd (Kd.slice e d) T (fun xs => ∀ x ∈ xs, ok x) (fun xs => sum m xs + 1) := by
  intro H enc w base spare held n cs x hx
  rcases open_slice h hx with ⟨rfl, rfl⟩ | ⟨a, len, cap, mm, n2, D, Pl, rfl, hb, hl, hm, hmm, rfl, hel⟩
  · exact ⟨[], ⟨none, 0, rfl, Nat.le_refl _, rfl, by simp, fun hn => absurd hn (by simp)⟩, by simp, by simp [sum, Rows.uptoBulk]⟩
  · have hlm : len ≤ mm := by rw [hmm]; split <;> omega
    have each : ∀ i, i < len → ∃ p, (∃ c, c.length = d.sz ∧ d.K w p c ∧ ∀ j u, c[j]? = some u → w.cell? (a.add (i * d.sz + j)) = some u) ∧ ok p ∧ m p ≤ Rows.uptoBulk (D i) := fun i hi => by
      obtain ⟨cs', h1, h2⟩ := hel i (by omega)
      obtain ⟨p, hk, ho, hb2⟩ := hd H enc w base spare held n2 cs' _ h2
      obtain ⟨_, hlen, hcell⟩ := World.cells?_some h1
      refine ⟨p, ⟨cs', by rw [hlen, hs], hk, fun j u hj => ?_⟩, ho, hb2⟩
      have hjl : j < cs'.length := (List.getElem?_eq_some_iff.1 hj).1
      have := hcell j (by omega)
      rw [Deep.add_add, hs] at this
      rw [this, hj]
    have mk : ∀ k, k ≤ len → ∃ ps : List α, ps.length = k ∧ ∀ i p, ps[i]? = some p → (∃ c, c.length = d.sz ∧ d.K w p c ∧ ∀ j u, c[j]? = some u → w.cell? (a.add (i * d.sz + j)) = some u) ∧ ok p ∧ m p ≤ Rows.uptoBulk (D i) := fun k => by
      induction k with
      | zero => exact fun _ => ⟨[], rfl, fun i p hp => by simp at hp⟩
      | succ k ih =>
        intro hk
        obtain ⟨ps, hl2, hp⟩ := ih (by omega)
        obtain ⟨p, hpp⟩ := each k (by omega)
        refine ⟨ps ++ [p], by simp [hl2], fun i q hq => ?_⟩
        by_cases c : i < ps.length
        · rw [List.getElem?_append_left c] at hq; exact hp i q hq
        · rw [List.getElem?_append_right (by omega)] at hq
          have : i - ps.length = 0 := by
            have := (List.getElem?_eq_some_iff.1 hq).1; simp at this; omega
          rw [this] at hq; simp at hq; subst hq
          have : i = k := by omega
          subst this; exact hpp
    obtain ⟨ps, hlen, hps⟩ := mk len (Nat.le_refl _)
    subst hlen
    refine ⟨ps, ⟨some a, cap, rfl, hl, rfl, by unfold maxLen at hm; omega, fun _ => ⟨a, rfl, fun j p hj => (hps j p hj).1⟩⟩, fun p hp => ?_, ?_⟩
    · obtain ⟨i, hi, rfl⟩ := List.getElem_of_mem hp
      exact (hps i _ (List.getElem?_eq_getElem hi)).2.1
    · have := bulk_map m D ps 0 (fun i p hp => by rw [Nat.zero_add]; exact (hps i p hp).2.2)
      simp only [Rows.uptoBulk, List.range_eq_range'] at this ⊢
      omega
theorem Rd_pair {α β γ : Type} {d0 : Kd α} {d1 : Kd β} {T : TypeId} {f0 f1 : Field} {ok0 : α → Prop} {ok1 : β → Prop} {m0 : α → Nat} {m1 : β → Nat} (ht : Try.prog.underlying T = some (.struct #[f0, f1]))
    (c0 : Try.prog.cellsOf f0.type = d0.sz) (c1 : Try.prog.cellsOf f1.type = d1.sz) (cT : Try.prog.cellsOf T = d0.sz + d1.sz) (o0 : f0.offset = 0) (o1 : f1.offset = d0.sz)
    (h0 : Rd d0 f0.type ok0 m0) (h1 : Rd d1 f1.type ok1 m1) (f : γ → α × β) (g : α → β → γ) (hfg : ∀ a b, f (g a b) = (a, b)) :
    Rd (Kd.iso (Kd.pair d0 d1) f) T (fun x => ok0 (f x).1 ∧ ok1 (f x).2) (fun x => m0 (f x).1 + m1 (f x).2 + 1) := by
  intro H enc w base spare held n cs x hx
  obtain ⟨xs, n2, _, rfl, hl, hxl, hf⟩ := DataW.trod_struct ht hx
  match xs, hxl with
  | [y0, y1], _ =>
    have g0 := hf 0 f0 rfl
    have g1 := hf 1 f1 rfl
    simp only [o0, o1, c0, c1, List.drop_zero, List.getElem?_cons_zero, List.getElem?_cons_succ] at g0 g1
    obtain ⟨p0, k0, a0, b0⟩ := h0 H enc w base spare held n2 _ _ g0
    obtain ⟨p1, k1, a1, b1⟩ := h1 H enc w base spare held n2 _ _ g1
    have e := hfg p0 p1
    refine ⟨g p0 p1, ?_, ?_, ?_⟩
    · show (Kd.pair d0 d1).K w (f (g p0 p1)) cs
      rw [e]
      refine ⟨cs.take d0.sz, cs.drop d0.sz, (List.take_append_drop _ _).symm, k0, ?_⟩
      rwa [List.take_of_length_le (by rw [List.length_drop]; omega)] at k1
    · show ok0 (f (g p0 p1)).1 ∧ ok1 (f (g p0 p1)).2
      rw [e]; exact ⟨a0, a1⟩
    · show m0 (f (g p0 p1)).1 + m1 (f (g p0 p1)).2 + 1 ≤ _
      rw [e]; simp [Rows.uptoBulk, Rows.uptoBulkAll]; omega
theorem rd41 : Rd k41 41 (fun x => (Lit.int .i64 x.f0).wf = true ∧ (Lit.int .i64 x.f1).wf = true) (fun _ => 3) :=
  Rd_pair Try.underlying41 (by kernel_rfl) (by kernel_rfl) (by kernel_rfl) rfl rfl (Rd_int Try.underlying3) (Rd_int Try.underlying3) (fun x : S41 => (x.f0, x.f1)) (fun a b => ⟨a, b⟩) (fun _ _ => rfl)
theorem rd34 : Rd (Kd.slice 41 k41) 34 (fun xs => ∀ x ∈ xs, (Lit.int .i64 x.f0).wf = true ∧ (Lit.int .i64 x.f1).wf = true) (fun xs => sum (fun _ => 3) xs + 1) := Rd_slice Try.underlying34 (by kernel_rfl) rd41
end Go.Proofs.Ytfhlnmgaammofaa.Rd

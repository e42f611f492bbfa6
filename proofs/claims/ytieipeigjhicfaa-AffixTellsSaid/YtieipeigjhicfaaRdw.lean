/- What an argument's reading tells of the cells, and of its texts' sizes: by the weights of what is read. -/
import Derived.Test.YtieipeigjhicfaaRd
namespace Go.Proofs.Ytieipeigjhicfaa.Rd
open Go.RowKit Go.Deep Go.Proofs.Ytieipeigjhicfaa.Q Go.Proofs.YtieipeigjhicfaaW.PrintWords
set_option linter.unusedVariables false
set_option linter.unusedSimpArgs false
/-- Whatever a type's cells read as, they are the cells of some p; and p keeps every bound on the weights of what is read. -/
def Rw {α : Type} (d : Kd α) (T : TypeId) (q : Nat → α → Prop) : Prop :=
  ∀ (H : Type) (enc : TypeId × Value → H) (w : World) (base : Nat) (spare : Nat → Bool) (held : Bool) (n : Nat) (cs : List Value) (x : DataW H × List MemPlace),
    DataW.trod enc Try.prog w base spare held n T cs = some x → ∃ p, d.K w p cs ∧ ∀ B, (∀ m ∈ x.1.weights Try.prog T, m ≤ B) → q B p
theorem Rw_int {T : TypeId} {k : IntKind} (h : Try.prog.underlying T = some (.int k)) : Rw (Kd.int k) T (fun _ _ => True) := by
  intro H enc w base spare held n cs x hx
  obtain ⟨v, rfl, rfl, hw⟩ := DataW.trod_int h hx
  exact ⟨v, rfl, fun _ _ => trivial⟩
theorem Rw_string {T : TypeId} (h : Try.prog.underlying T = some .string) : Rw Kd.string T (fun B s => s.size ≤ B) := by
  intro H enc w base spare held n cs x hx
  obtain ⟨s, rfl, rfl, hw⟩ := DataW.trod_string h hx
  refine ⟨s, rfl, fun B hB => ?_⟩
  have := hB s.size (by simp [DataW.weights])
  exact this
theorem weights_all {H : Type} {P : Program} {e : TypeId} : ∀ {l : List (DataW H)} {d : DataW H}, d ∈ l → ∀ n ∈ d.weights P e, n ∈ DataW.weightsAll P e l
  | x :: r, d, h, n, hn => by
    simp only [DataW.weightsAll, List.mem_append]
    rcases List.mem_cons.1 h with rfl | h
    · exact .inl hn
    · exact .inr (weights_all h n hn)
theorem Rw_slice {α : Type} {d : Kd α} {T e : TypeId} {q : Nat → α → Prop} (h : Try.prog.underlying T = some (.slice e)) (hs : Try.prog.cellsOf e = d.sz) (hd : Rw d e q) :
    Rw (Kd.slice e d) T (fun B xs => ∀ x ∈ xs, q B x) := by
  intro H enc w base spare held n cs x hx
  rcases open_slice h hx with ⟨rfl, rfl⟩ | ⟨a, len, cap, mm, n2, D, Pl, rfl, hb, hl, hm, hmm, rfl, hel⟩
  · exact ⟨[], ⟨none, 0, rfl, Nat.le_refl _, rfl, by simp, fun hn => absurd hn (by simp)⟩, fun B _ x hx => by cases hx⟩
  · have hlm : len ≤ mm := by rw [hmm]; split <;> omega
    have each : ∀ i, i < len → ∃ p, (∃ c, c.length = d.sz ∧ d.K w p c ∧ ∀ j u, c[j]? = some u → w.cell? (a.add (i * d.sz + j)) = some u) ∧ ∀ B, (∀ m ∈ (D i).weights Try.prog e, m ≤ B) → q B p := fun i hi => by
      obtain ⟨cs', h1, h2⟩ := hel i (by omega)
      obtain ⟨p, hk, hb2⟩ := hd H enc w base spare held n2 cs' _ h2
      obtain ⟨_, hlen, hcell⟩ := World.cells?_some h1
      refine ⟨p, ⟨cs', by rw [hlen, hs], hk, fun j u hj => ?_⟩, hb2⟩
      have hjl : j < cs'.length := (List.getElem?_eq_some_iff.1 hj).1
      have := hcell j (by omega)
      rw [Deep.add_add, hs] at this
      rw [this, hj]
    have mk : ∀ k, k ≤ len → ∃ ps : List α, ps.length = k ∧ ∀ i p, ps[i]? = some p → (∃ c, c.length = d.sz ∧ d.K w p c ∧ ∀ j u, c[j]? = some u → w.cell? (a.add (i * d.sz + j)) = some u) ∧ ∀ B, (∀ m ∈ (D i).weights Try.prog e, m ≤ B) → q B p := fun k => by
      induction k with
      | zero => exact fun _ => ⟨[], rfl, fun i p hp => by simp at hp⟩
      | succ k ih =>
        intro hk
        obtain ⟨ps, hl2, hp⟩ := ih (by omega)
        obtain ⟨p, hpp⟩ := each k (by omega)
        refine ⟨ps ++ [p], by simp [hl2], fun i q hq => ?_⟩
        by_cases c : i < ps.length
        · rw [List.getElem?_append_left c] at hq; exact hp i q hq
        · rw [List.getElem?_append_right (by omega)] at hq
          have : i - ps.length = 0 := by
            have := (List.getElem?_eq_some_iff.1 hq).1; simp at this; omega
          rw [this] at hq; simp at hq; subst hq
          have : i = k := by omega
          subst this; exact hpp
    obtain ⟨ps, hlen, hps⟩ := mk len (Nat.le_refl _)
    subst hlen
    refine ⟨ps, ⟨some a, cap, rfl, hl, rfl, by unfold maxLen at hm; omega, fun _ => ⟨a, rfl, fun j p hj => (hps j p hj).1⟩⟩, fun B hB p hp => ?_⟩
    obtain ⟨i, hi, rfl⟩ := List.getElem_of_mem hp
    refine (hps i _ (List.getElem?_eq_getElem hi)).2 B fun m hm => hB m ?_
    simp only [DataW.weights, h, List.mem_cons, List.mem_append]
    exact .inr (.inl (weights_all (List.mem_map.2 ⟨i, List.mem_range.2 hi, rfl⟩) m hm))
theorem rw32 : Rw k32 32 (fun B x => x.f2.size ≤ B) := by
  intro H enc w base spare held n cs x hx
  obtain ⟨xs, n2, _, rfl, hl, hxl, hf⟩ := DataW.trod_struct Try.underlying32 hx
  match xs, hxl with
  | [y0, y1, y2], _ =>
    have g0 := hf 0 _ rfl
    have g1 := hf 1 _ rfl
    have g2 := hf 2 _ rfl
    have c3 : Try.prog.cellsOf 3 = 1 := by kernel_rfl
    have c9 : Try.prog.cellsOf 9 = 1 := by kernel_rfl
    simp only [c3, c9, List.drop_zero, List.getElem?_cons_zero, List.getElem?_cons_succ] at g0 g1 g2
    obtain ⟨p0, k0, b0⟩ := Rw_int Try.underlying3 H enc w base spare held n2 _ _ g0
    obtain ⟨p1, k1, b1⟩ := Rw_int Try.underlying3 H enc w base spare held n2 _ _ g1
    obtain ⟨p2, k2, b2⟩ := Rw_string Try.underlying9 H enc w base spare held n2 _ _ g2
    have c32 : Try.prog.cellsOf 32 = 3 := by kernel_rfl
    rw [c32] at hl
    match cs, hl with
    | [u0, u1, u2], _ =>
      have e0 : [u0] = [Value.int .i64 p0] := k0
      have e1 : [u1] = [Value.int .i64 p1] := k1
      have e2 : [u2] = [Value.string p2] := k2
      injection e0 with e0
      injection e1 with e1
      injection e2 with e2
      subst e0 e1 e2
      refine ⟨⟨p0, p1, p2⟩, k32_mk w ⟨p0, p1, p2⟩, fun B hB => b2 B fun m hm => hB m ?_⟩
      simp only [List.map_cons, List.map_nil, DataW.weights, Try.underlying32, DataW.weightsEach, List.mem_append]
      exact .inr (.inr (.inl hm))
theorem rw22 : Rw (Kd.slice 32 k32) 22 (fun B xs => ∀ x ∈ xs, x.f2.size ≤ B) := Rw_slice Try.underlying22 (by kernel_rfl) rw32
theorem sized_weights {H : Type} {ts : List TypeId} {ds : List (DataW H)} (hsz : (DataW.weightsEach Try.prog ts ds).all (· ≤ reachBytes) = true) {j : Nat} {t : TypeId} {d : DataW H} (ht : ts[j]? = some t) (hd : ds[j]? = some d) : ∀ m ∈ d.weights Try.prog t, m ≤ reachBytes := by
  intro m hm
  have := List.all_eq_true.1 hsz m (DataW.weights_mem_each ht hd m hm)
  exact of_decide_eq_true this
end Go.Proofs.Ytieipeigjhicfaa.Rd

/- What an argument's reading tells of the cells: slices of structs of whole numbers and texts, read as lists. -/
import Derived.Test.YtieipeigjhicfaaRows
import Derived.Test.YtieipeigjhicfaaQx0
import Derived.ProofKit
import Derived.Deep.SlicePairs
import Derived.Deep.Strs
import Derived.SizedLaws
import Derived.Shelf.Vars
import Derived.Test.YtieipeigjhicfaaGlob
import Derived.JoinedCond
namespace Go.Proofs.Ytieipeigjhicfaa.Rd
open Go.RowKit Go.Deep Go.Proofs.Ytieipeigjhicfaa.Q Go.Proofs.YtieipeigjhicfaaW.PrintWords
set_option linter.unusedVariables false
set_option linter.unusedSimpArgs false
/-- Whatever a type's cells read as, they are the cells of some p that is as it should be, and no larger than what is read. -/
def Rd {α : Type} (d : Kd α) (T : TypeId) (ok : α → Prop) (m : α → Nat) : Prop :=
  ∀ (H : Type) (enc : TypeId × Value → H) (w : World) (base : Nat) (spare : Nat → Bool) (held : Bool) (n : Nat) (cs : List Value) (x : DataW H × List MemPlace),
    DataW.trod enc Try.prog w base spare held n T cs = some x → ∃ p, d.K w p cs ∧ ok p ∧ m p ≤ Rows.uptoBulk x.1
theorem Rd_int {T : TypeId} {k : IntKind} (h : Try.prog.underlying T = some (.int k)) : Rd (Kd.int k) T (fun n => (Lit.int k n).wf = true) (fun _ => 1) := by
  intro H enc w base spare held n cs x hx
  obtain ⟨v, rfl, rfl, hw⟩ := DataW.trod_int h hx
  exact ⟨v, rfl, hw, Nat.le_refl _⟩
theorem Rd_string {T : TypeId} (h : Try.prog.underlying T = some .string) : Rd Kd.string T (fun s => s.size ≤ maxLen) (fun s => s.size + 1) := by
  intro H enc w base spare held n cs x hx
  obtain ⟨s, rfl, rfl, hw⟩ := DataW.trod_string h hx
  refine ⟨s, rfl, hw, ?_⟩
  simp [Rows.uptoBulk]
/-- Sizes added up. -/
def sum {α : Type} (m : α → Nat) : List α → Nat
  | [] => 0
  | x :: l => m x + sum m l
theorem bulk_map {H : Type} {α : Type} (m : α → Nat) (D : Nat → DataW H) : ∀ (ps : List α) (k : Nat), (∀ i p, ps[i]? = some p → m p ≤ Rows.uptoBulk (D (k + i))) →
    sum m ps ≤ Rows.uptoBulkAll ((List.range' k ps.length).map D)
  | [], k, h => by simp [sum]
  | p :: ps, k, h => by
    have h0 := h 0 p rfl
    have ih := bulk_map m D ps (k + 1) (fun i q hq => by have := h (i + 1) q hq; rwa [show k + (i + 1) = k + 1 + i by omega] at this)
    simp only [List.length_cons, List.range'_succ, List.map_cons, sum, Rows.uptoBulkAll]
    rw [Nat.add_zero] at h0
    omega
theorem Rd_slice {α : Type} {d : Kd α} {T e : TypeId} {ok : α → Prop} {m : α → Nat} (h : Try.prog.underlying T = some (.slice e)) (hs : Try.prog.cellsOf e = d.sz) (hd : Rd d e ok m) :
    Rd (Kd.slice e d) T (fun xs => ∀ x ∈ xs, ok x) (fun xs => sum m xs + 1) := by
  intro H enc w base spare held n cs x hx
  rcases open_slice h hx with ⟨rfl, rfl⟩ | ⟨a, len, cap, mm, n2, D, Pl, rfl, hb, hl, hm, hmm, rfl, hel⟩
  · exact ⟨[], ⟨none, 0, rfl, Nat.le_refl _, rfl, by simp, fun hn => absurd hn (by simp)⟩, by simp, by simp [sum, Rows.uptoBulk]⟩
  · have hlm : len ≤ mm := by rw [hmm]; split <;> omega
    have each : ∀ i, i < len → ∃ p, (∃ c, c.length = d.sz ∧ d.K w p c ∧ ∀ j u, c[j]? = some u → w.cell? (a.add (i * d.sz + j)) = some u) ∧ ok p ∧ m p ≤ Rows.uptoBulk (D i) := fun i hi => by
      obtain ⟨cs', h1, h2⟩ := hel i (by omega)
      obtain ⟨p, hk, ho, hb2⟩ := hd H enc w base spare held n2 cs' _ h2
      obtain ⟨_, hlen, hcell⟩ := World.cells?_some h1
      refine ⟨p, ⟨cs', by rw [hlen, hs], hk, fun j u hj => ?_⟩, ho, hb2⟩
      have hjl : j < cs'.length := (List.getElem?_eq_some_iff.1 hj).1
      have := hcell j (by omega)
      rw [Deep.add_add, hs] at this
      rw [this, hj]
    have mk : ∀ k, k ≤ len → ∃ ps : List α, ps.length = k ∧ ∀ i p, ps[i]? = some p → (∃ c, c.length = d.sz ∧ d.K w p c ∧ ∀ j u, c[j]? = some u → w.cell? (a.add (i * d.sz + j)) = some u) ∧ ok p ∧ m p ≤ Rows.uptoBulk (D i) := fun k => by
      induction k with
      | zero => exact fun _ => ⟨[], rfl, fun i p hp => by simp at hp⟩
      | succ k ih =>
        intro hk
        obtain ⟨ps, hl2, hp⟩ := ih (by omega)
        obtain ⟨p, hpp⟩ := each k (by omega)
        refine ⟨ps ++ [p], by simp [hl2], fun i q hq => ?_⟩
        by_cases c : i < ps.length
        · rw [List.getElem?_append_left c] at hq; exact hp i q hq
        · rw [List.getElem?_append_right (by omega)] at hq
          have : i - ps.length = 0 := by
            have := (List.getElem?_eq_some_iff.1 hq).1; simp at this; omega
          rw [this] at hq; simp at hq; subst hq
          have : i = k := by omega
          subst this; exact hpp
    obtain ⟨ps, hlen, hps⟩ := mk len (Nat.le_refl _)
    subst hlen
    refine ⟨ps, ⟨some a, cap, rfl, hl, rfl, by unfold maxLen at hm; omega, fun _ => ⟨a, rfl, fun j p hj => (hps j p hj).1⟩⟩, fun p hp => ?_, ?_⟩
    · obtain ⟨i, hi, rfl⟩ := List.getElem_of_mem hp
      exact (hps i _ (List.getElem?_eq_getElem hi)).2.1
    · have := bulk_map m D ps 0 (fun i p hp => by rw [Nat.zero_add]; exact (hps i p hp).2.2)
      simp only [Rows.uptoBulk, List.range_eq_range'] at this ⊢
      omega
theorem rd32 : Rd k32 32 (fun x => (Lit.int .i64 x.f0).wf = true ∧ (Lit.int .i64 x.f1).wf = true ∧ x.f2.size ≤ maxLen) (fun x => x.f2.size + 4) := by
  intro H enc w base spare held n cs x hx
  obtain ⟨xs, n2, _, rfl, hl, hxl, hf⟩ := DataW.trod_struct Try.underlying32 hx
  match xs, hxl with
  | [y0, y1, y2], _ =>
    have g0 := hf 0 _ rfl
    have g1 := hf 1 _ rfl
    have g2 := hf 2 _ rfl
    have c3 : Try.prog.cellsOf 3 = 1 := by kernel_rfl
    have c9 : Try.prog.cellsOf 9 = 1 := by kernel_rfl
    simp only [c3, c9, List.drop_zero, List.getElem?_cons_zero, List.getElem?_cons_succ] at g0 g1 g2
    obtain ⟨p0, k0, a0, b0⟩ := Rd_int Try.underlying3 H enc w base spare held n2 _ _ g0
    obtain ⟨p1, k1, a1, b1⟩ := Rd_int Try.underlying3 H enc w base spare held n2 _ _ g1
    obtain ⟨p2, k2, a2, b2⟩ := Rd_string Try.underlying9 H enc w base spare held n2 _ _ g2
    have c32 : Try.prog.cellsOf 32 = 3 := by kernel_rfl
    rw [c32] at hl
    match cs, hl with
    | [u0, u1, u2], _ =>
      have e0 : [u0] = [Value.int .i64 p0] := k0
      have e1 : [u1] = [Value.int .i64 p1] := k1
      have e2 : [u2] = [Value.string p2] := k2
      injection e0 with e0
      injection e1 with e1
      injection e2 with e2
      subst e0 e1 e2
      refine ⟨⟨p0, p1, p2⟩, k32_mk w ⟨p0, p1, p2⟩, ⟨a0, a1, a2⟩, ?_⟩
      simp [Rows.uptoBulk, Rows.uptoBulkAll] at b0 b1 b2 ⊢
      omega
theorem rd22 : Rd (Kd.slice 32 k32) 22 (fun xs => ∀ x ∈ xs, (Lit.int .i64 x.f0).wf = true ∧ (Lit.int .i64 x.f1).wf = true ∧ x.f2.size ≤ maxLen) (fun xs => sum (fun x : S32 => x.f2.size + 4) xs + 1) := Rd_slice Try.underlying22 (by kernel_rfl) rd32
theorem sum_len {α : Type} (m : α → Nat) : ∀ (l : List α), (∀ x, 1 ≤ m x) → l.length ≤ sum m l
  | [], h => Nat.zero_le _
  | x :: l, h => by
    have := sum_len m l h
    have := h x
    simp only [List.length_cons, sum]
    omega
theorem sum_mem {α : Type} (m : α → Nat) : ∀ (l : List α) (x : α), x ∈ l → m x ≤ sum m l
  | y :: l, x, h => by
    simp only [sum]
    rcases List.mem_cons.1 h with rfl | h
    · omega
    · have := sum_mem m l x h
      omega
/-- A slice is no longer than its weight allows. -/
theorem sized_row {H : Type} {enc : TypeId × Value → H} {W : World} {base : Nat} {spare : Nat → Bool} {held : Bool} {t e : TypeId} {a : Option Addr} {len cap : Nat} {d : DataW H} {ps : List MemPlace} {ts : List TypeId} {ds : List (DataW H)} {j : Nat}
    (hsz : (DataW.weightsEach Try.prog ts ds).all (· ≤ reachBytes) = true) (ht : ts[j]? = some t) (hd : ds[j]? = some d) (hu : Try.prog.underlying t = some (.slice e)) {B : Nat} (hB : Try.prog.bytesOf e = B)
    (h : DataW.Trod enc Try.prog W base spare held t (.slice a len cap) d ps) : len * B ≤ 140737488351232 := by
  obtain ⟨fuel, hf⟩ := h
  rcases open_slice hu hf with ⟨hcs, _⟩ | ⟨x, l, c, m, n, D, Pl, hcs, _, hl, _, hm, hx, _⟩
  · simp [Value.cells] at hcs
    obtain ⟨rfl, rfl, rfl⟩ := hcs
    simp
  · simp [Value.cells] at hcs
    obtain ⟨rfl, rfl, rfl⟩ := hcs
    obtain ⟨hx, _⟩ := Prod.mk.inj hx
    subst hx
    have z := sized_slice hsz ht hd hu
    rw [hB] at z
    have hl2 : len ≤ ((List.range len).map D).length + ((List.range (m - len)).map fun j => D (len + j)).length := by simp
    exact Nat.le_trans (Nat.mul_le_mul_right _ hl2) z
/-- The library's variable holds an int where a call begins. -/
theorem glob_of {w : World} (h : w.ShapedOpen Try.prog) : Glob w :=
  Go.Proofs.cell_of_shapedOpen_int (zero := #[.int .i64 0]) (t := 3) h (of_decide_eq_true (by kernel_rfl)) (by kernel_rfl) rfl (by kernel_rfl) (by kernel_rfl) Try.underlying3
/-- As the kit's returnsInHanded_of_cond, with the shape of the world in which the call begins. -/
theorem returnsInHanded_of_cond_shaped {H : Type} {enc : TypeId × Value → H} {a : Assume} {C : Checked} {os : Os} {f : FuncId} {fn : Func} {s : OpenSpec} {k : (H : Type) → List (DataW H) → Bool} (hk : s.cond = some k) {F : Stop.Interp} {conds : List PathCond} {apart fresh handsOn again : Bool}
    (own : ownKnob C.prog.godebug = none) (started : os.Started) (noInit : C.prog.inits.idxOf? f = none) (hfn : C.prog.funcs[f]? = some fn)
    (witness : ∃ (w : World) (tape : Tape) (i : Input), w.os = os ∧ (w.forCall tape i).Shaped C.prog ∧ i.vars = [] ∧ Input.okWide C.prog (w.forCall tape i) .any w.heap.size f i ∧
      s.pre6 enc C.prog fn conds apart (w.forCall tape i).memory i.args ∧ a.holds C.prog (lone (Frame.enter C.prog f i.args .normal) [] (w.forCall tape i)))
    (contract : ∀ (W : World) (base : Nat) (args : Array Value) (ds gs : List (DataW H)) (before : List MemPlace),
      (∀ (j : Nat) t v, fn.params[j]? = some t → args[j]? = some v → Value.okWide C.prog W .any base t v) →
      DataW.Whole enc C.prog fn.params.toList s.vars apart W args.toList ds gs before →
      conds.all (PathCond.test C.prog ⟨fn.params.toList, ds, s.bare.plain.varTypes C.prog, gs⟩) = true → k H (ds ++ gs) = true → W.ShapedOpen C.prog →
      a.holds C.prog (lone (Frame.enter C.prog f args .normal) [] W) →
      Calls C.prog f args W fun e W' => ∃ v, e = .returned v ∧ (s.at F).post enc C.prog fn apart fresh handsOn again W args v W') :
    ReturnsInHanded a C os f .any (s.pre6 enc C.prog fn conds apart) ((s.at F).post enc C.prog fn apart fresh handsOn again) := by
  refine returnsInHanded_of_calls own started noInit witness ?_
  intro w tape i _ hsh _ hok hpre hholds
  obtain ⟨_, _, _, fn', hfn', _, _, _, _, hval⟩ := hok
  have e : fn' = fn := Option.some.inj (hfn'.symm.trans hfn)
  subst e
  obtain ⟨ds, gs, before, hw, hc, hkk⟩ := (OpenSpec.pre_some hk conds apart _ _).1 hpre.1
  have hw' := DataW.Whole.of_heap (w' := w.forCall tape i) (by rfl) hw
  refine (contract (w.forCall tape i) w.heap.size i.args ds gs before hval hw' hc hkk hsh hholds).mono fun e W' ⟨v, he, hp⟩ => ?_
  subst he
  exact ChangeSpec.post_blind hp
end Go.Proofs.Ytieipeigjhicfaa.Rd

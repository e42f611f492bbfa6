import Derived.Test.YtacnjemndfmbhaaRows
import Derived.ProofKit
import Derived.Deep.SlicePairs
import Derived.Deep.Strs
import Derived.SizedLaws
import Derived.Shelf.Vars
import Derived.JoinedCond
import Derived.Test.YtacnjemndfmbhaaC0
import Derived.Test.YtacnjemndfmbhaaC6
import Derived.Test.YtacnjemndfmbhaaC12
section
namespace Go.Proofs.Ytacnjemndfmbhaa.Rd
open Go.RowKit Go.Deep Go.Proofs.Ytacnjemndfmbhaa.Q Go.Proofs.YtacnjemndfmbhaaW.PrintWords
set_option linter.unusedVariables false
set_option linter.unusedSimpArgs false
theorem glob_of {w : World} (h : w.ShapedOpen Try.prog) : Glob w :=
  Go.Proofs.cell_of_shapedOpen_int (zero := #[.int .i64 0]) (t := 3) h (of_decide_eq_true (by kernel_rfl)) (by kernel_rfl) rfl (by kernel_rfl) (by kernel_rfl) Try.underlying3
def Rw {α : Type} (d : Kd α) (T : TypeId) (q : Nat → α → Prop) : Prop :=
  ∀ (H : Type) (enc : TypeId × Value → H) (w : World) (base : Nat) (spare : Nat → Bool) (held : Bool) (n : Nat) (cs : List Value) (x : DataW H × List MemPlace),
    DataW.trod enc Try.prog w base spare held n T cs = some x → ∃ p, d.K w p cs ∧ ∀ B, (∀ m ∈ x.1.weights Try.prog T, m ≤ B) → q B p
theorem Rw_int {T : TypeId} {k : IntKind} (h : Try.prog.underlying T = some (.int k)) : Rw (Kd.int k) T (fun _ _ => True) := by
  intro H enc w base spare held n cs x hx
  obtain ⟨v, rfl, rfl, hw⟩ := DataW.trod_int h hx
  exact ⟨v, rfl, fun _ _ => trivial⟩
theorem Rw_string {T : TypeId} (h : Try.prog.underlying T = some .string) : Rw Kd.string T (fun B s => s.size ≤ B) := by
  intro H enc w base spare held n cs x hx
  obtain ⟨s, rfl, rfl, hw⟩ := DataW.trod_string h hx
  refine ⟨s, rfl, fun B hB => ?_⟩
  have := hB s.size (by simp [DataW.weights])
  exact this
theorem weights_all {H : Type} {P : Program} {e : TypeId} : ∀ {l : List (DataW H)} {d : DataW H}, d ∈ l → ∀ n ∈ d.weights P e, n ∈ DataW.weightsAll P e l
  | x :: r, d, h, n, hn => by
    simp only [DataW.weightsAll, List.mem_append]
    rcases List.mem_cons.1 h with rfl | h
    · exact .inl hn
    · exact .inr (weights_all h n hn)
theorem Rw_slice {α : Type} {d : Kd α} {T e : TypeId} {q : Nat → α → Prop} (h : Try.prog.underlying T = some (.slice e)) (hs : Try.prog.cellsOf e = d.sz) (hd : Rw d e q) :
    Rw (Kd.slice e d) T (fun B xs => (∀ x ∈ xs, q B x) ∧ xs.length * Try.prog.bytesOf e ≤ B) := by
  intro H enc w base spare held n cs x hx
  rcases open_slice h hx with ⟨rfl, rfl⟩ | ⟨a, len, cap, mm, n2, D, Pl, rfl, hb, hl, hm, hmm, rfl, hel⟩
  · exact ⟨[], ⟨none, 0, rfl, Nat.le_refl _, rfl, by simp, fun hn => absurd hn (by simp)⟩, fun B _ => ⟨(fun x hx => by cases hx), Nat.le_trans (Nat.le_of_eq (Nat.zero_mul _)) (Nat.zero_le B)⟩⟩
  · have hlm : len ≤ mm := by rw [hmm]; split <;> omega
    have each : ∀ i, i < len → ∃ p, (∃ c, c.length = d.sz ∧ d.K w p c ∧ ∀ j u, c[j]? = some u → w.cell? (a.add (i * d.sz + j)) = some u) ∧ ∀ B, (∀ m ∈ (D i).weights Try.prog e, m ≤ B) → q B p := fun i hi => by
      obtain ⟨cs', h1, h2⟩ := hel i (by omega)
      obtain ⟨p, hk, hb2⟩ := hd H enc w base spare held n2 cs' _ h2
      obtain ⟨_, hlen, hcell⟩ := World.cells?_some h1
      refine ⟨p, ⟨cs', by rw [hlen, hs], hk, fun j u hj => ?_⟩, hb2⟩
      have hjl : j < cs'.length := (List.getElem?_eq_some_iff.1 hj).1
      have := hcell j (by omega)
      rw [Deep.add_add, hs] at this
      rw [this, hj]
    have mk : ∀ k, k ≤ len → ∃ ps : List α, ps.length = k ∧ ∀ i p, ps[i]? = some p → (∃ c, c.length = d.sz ∧ d.K w p c ∧ ∀ j u, c[j]? = some u → w.cell? (a.add (i * d.sz + j)) = some u) ∧ ∀ B, (∀ m ∈ (D i).weights Try.prog e, m ≤ B) → q B p := fun k => by
      induction k with
      | zero => exact fun _ => ⟨[], rfl, fun i p hp => by simp at hp⟩
      | succ k ih =>
        intro hk
        obtain ⟨ps, hl2, hp⟩ := ih (by omega)
        obtain ⟨p, hpp⟩ := each k (by omega)
        refine ⟨ps ++ [p], by simp [hl2], fun i q hq => ?_⟩
        by_cases c : i < ps.length
        · rw [List.getElem?_append_left c] at hq; exact hp i q hq
        · rw [List.getElem?_append_right (by omega)] at hq
          have : i - ps.length = 0 := by
            have := (List.getElem?_eq_some_iff.1 hq).1; simp at this; omega
          rw [this] at hq; simp at hq; subst hq
          have : i = k := by omega
          subst this; exact hpp
    obtain ⟨ps, hlen, hps⟩ := mk len (Nat.le_refl _)
    subst hlen
    refine ⟨ps, ⟨some a, cap, rfl, hl, rfl, by unfold maxLen at hm; omega, fun _ => ⟨a, rfl, fun j p hj => (hps j p hj).1⟩⟩, fun B hB => ⟨fun p hp => ?_, ?_⟩⟩
    · obtain ⟨i, hi, rfl⟩ := List.getElem_of_mem hp
      refine (hps i _ (List.getElem?_eq_getElem hi)).2 B fun m hm => hB m ?_
      simp only [DataW.weights, h, List.mem_cons, List.mem_append]
      exact .inr (.inl (weights_all (List.mem_map.2 ⟨i, List.mem_range.2 hi, rfl⟩) m hm))
    · have hl2 : ps.length ≤ ((List.range ps.length).map D).length + ((List.range (mm - ps.length)).map fun j => D (ps.length + j)).length := by simp
      refine Nat.le_trans (Nat.mul_le_mul_right _ hl2) (hB _ ?_)
      simp only [DataW.weights, h]
      exact List.mem_cons_self
set_option maxRecDepth 100000 in
theorem rw53 : Rw k53 53 (fun B x => x.f2.size ≤ B) := by
  intro H enc w base spare held n cs x hx
  obtain ⟨xs, n2, _, rfl, hl, hxl, hf⟩ := DataW.trod_struct Try.underlying53 hx
  match xs, hxl with
  | [y0, y1, y2], _ =>
    have g0 := hf 0 _ rfl
    have g1 := hf 1 _ rfl
    have g2 := hf 2 _ rfl
    have c3 : Try.prog.cellsOf 3 = 1 := by kernel_rfl
    have c9 : Try.prog.cellsOf 9 = 1 := by kernel_rfl
    simp only [c3, c9, List.drop_zero, List.getElem?_cons_zero, List.getElem?_cons_succ] at g0 g1 g2
    obtain ⟨p0, k0, b0⟩ := Rw_int Try.underlying3 H enc w base spare held n2 _ _ g0
    obtain ⟨p1, k1, b1⟩ := Rw_int Try.underlying3 H enc w base spare held n2 _ _ g1
    obtain ⟨p2, k2, b2⟩ := Rw_string Try.underlying9 H enc w base spare held n2 _ _ g2
    have c53 : Try.prog.cellsOf 53 = 3 := by kernel_rfl
    rw [c53] at hl
    match cs, hl with
    | [u0, u1, u2], _ =>
      have e0 : [u0] = [Value.int .i64 p0] := k0
      have e1 : [u1] = [Value.int .i64 p1] := k1
      have e2 : [u2] = [Value.string p2] := k2
      injection e0 with e0
      injection e1 with e1
      injection e2 with e2
      subst e0 e1 e2
      refine ⟨⟨p0, p1, p2⟩, k53_mk w ⟨p0, p1, p2⟩, fun B hB => b2 B fun m hm => hB m ?_⟩
      simp only [List.map_cons, List.map_nil, DataW.weights, Try.underlying53, DataW.weightsEach, List.mem_append]
      exact .inr (.inr (.inl hm))
theorem rw22 : Rw (Kd.slice 53 k53) 22 (fun B xs => (∀ x ∈ xs, x.f2.size ≤ B) ∧ xs.length * Try.prog.bytesOf 53 ≤ B) := Rw_slice Try.underlying22 (by kernel_rfl) rw53
theorem sized_weights {H : Type} {ts : List TypeId} {ds : List (DataW H)} (hsz : (DataW.weightsEach Try.prog ts ds).all (· ≤ reachBytes) = true) {j : Nat} {t : TypeId} {d : DataW H} (ht : ts[j]? = some t) (hd : ds[j]? = some d) : ∀ m ∈ d.weights Try.prog t, m ≤ reachBytes := by
  intro m hm
  have := List.all_eq_true.1 hsz m (DataW.weights_mem_each ht hd m hm)
  exact of_decide_eq_true this
theorem Rw_bool {T : TypeId} (h : Try.prog.underlying T = some .bool) {H : Type} {enc : TypeId × Value → H} {w : World} {base : Nat} {spare : Nat → Bool} {held : Bool} {n : Nat} {cs : List Value} {x : DataW H × List MemPlace} (hx : DataW.trod enc Try.prog w base spare held n T cs = some x) : ∃ b, cs = [.bool b] := by
  obtain ⟨b, rfl, _⟩ := DataW.trod_bool h hx
  exact ⟨b, rfl⟩
theorem b53 : Try.prog.bytesOf 53 = 32 := by kernel_rfl
def RowR (w : World) (A : Option Addr) (c : Nat) (l : List S53) (B : Nat) : Prop := l.length ≤ c ∧ Kd.C k53 w A l.length l ∧ (∀ t ∈ l, t.f2.size ≤ B) ∧ l.length * 32 ≤ B
theorem rd_row {H : Type} {enc : TypeId × Value → H} {w : World} {base : Nat} {spare : Nat → Bool} {held : Bool} {n : Nat} {cs : List Value} {x : DataW H × List MemPlace} (hx : DataW.trod enc Try.prog w base spare held n 22 cs = some x) : ∃ A c l, cs = [.slice A l.length c] ∧ ∀ B, (∀ m ∈ x.1.weights Try.prog 22, m ≤ B) → RowR w A c l B := by
  obtain ⟨l, ⟨A, c, e, hc, hC⟩, hm⟩ := rw22 _ _ _ _ _ _ _ _ _ hx
  exact ⟨A, c, l, e, fun B hB => by have := hm B hB; rw [b53] at this; exact ⟨hc, hC, this.1, this.2⟩⟩
theorem tok_of {w : World} {A : Option Addr} {c : Nat} {l : List S53} (h : RowR w A c l reachBytes) : TokOk l := by
  obtain ⟨h1, h2, h3, h4⟩ := h
  have hr : reachBytes = 140737488351232 ∨ reachBytes ≤ 140737488355327 := .inr (by decide)
  exact ⟨fun t ht => Nat.le_trans (h3 t ht) (by decide), by have : reachBytes ≤ 140737488355327 := by decide
                                                            omega⟩
set_option maxRecDepth 100000 in
theorem rd24 {H : Type} {enc : TypeId × Value → H} {w : World} {base : Nat} {spare : Nat → Bool} {held : Bool} {n : Nat} {cs : List Value} {x : DataW H × List MemPlace} (hx : DataW.trod enc Try.prog w base spare held n 24 cs = some x) : ∃ L y, cs = (subC L y).toList ∧ ((∀ m ∈ x.1.weights Try.prog 24, m ≤ reachBytes) → SubOk w L y ∧ y.p.length ≤ 4398046510976 ∧ y.s.length ≤ 4398046510976) := by
  obtain ⟨xs, n2, _, rfl, hl, hxl, hf⟩ := DataW.trod_struct Try.underlying24 hx
  have c3 : Try.prog.cellsOf 3 = 1 := by kernel_rfl
  have c4 : Try.prog.cellsOf 4 = 1 := by kernel_rfl
  have c9 : Try.prog.cellsOf 9 = 1 := by kernel_rfl
  have c22 : Try.prog.cellsOf 22 = 1 := by kernel_rfl
  have c24 : Try.prog.cellsOf 24 = 12 := by kernel_rfl
  rw [c24] at hl
  match xs, hxl with
  | [y0, y1, y2, y3, y4, y5, y6, y7, y8, y9, y10, y11], _ =>
    match cs, hl with
    | [u0, u1, u2, u3, u4, u5, u6, u7, u8, u9, u10, u11], _ =>
      have g0 := hf 0 _ rfl
      have g1 := hf 1 _ rfl
      have g2 := hf 2 _ rfl
      have g3 := hf 3 _ rfl
      have g4 := hf 4 _ rfl
      have g5 := hf 5 _ rfl
      have g6 := hf 6 _ rfl
      have g7 := hf 7 _ rfl
      have g8 := hf 8 _ rfl
      have g9 := hf 9 _ rfl
      have g10 := hf 10 _ rfl
      have g11 := hf 11 _ rfl
      simp only [c3, c4, c9, c22, List.drop_zero, List.drop_succ_cons, List.take_succ_cons, List.take_zero, List.getElem?_cons_zero, List.getElem?_cons_succ] at g0 g1 g2 g3 g4 g5 g6 g7 g8 g9 g10 g11
      obtain ⟨A0, c0_, l0, e0, b0⟩ := rd_row g0
      obtain ⟨A1, c1_, l1, e1, b1⟩ := rd_row g1
      obtain ⟨p2, k2, _⟩ := Rw_int Try.underlying3 H enc w base spare held n2 _ _ g2
      have e2 : [u2] = [Value.int .i64 p2] := k2
      obtain ⟨p3, k3, _⟩ := Rw_int Try.underlying3 H enc w base spare held n2 _ _ g3
      have e3 : [u3] = [Value.int .i64 p3] := k3
      obtain ⟨p4, k4, _⟩ := Rw_int Try.underlying3 H enc w base spare held n2 _ _ g4
      have e4 : [u4] = [Value.int .i64 p4] := k4
      obtain ⟨p5, k5, _⟩ := Rw_int Try.underlying3 H enc w base spare held n2 _ _ g5
      have e5 : [u5] = [Value.int .i64 p5] := k5
      obtain ⟨p6, k6, _⟩ := Rw_int Try.underlying3 H enc w base spare held n2 _ _ g6
      have e6 : [u6] = [Value.int .i64 p6] := k6
      obtain ⟨p7, k7, _⟩ := Rw_int Try.underlying3 H enc w base spare held n2 _ _ g7
      have e7 : [u7] = [Value.int .i64 p7] := k7
      obtain ⟨p8, e8⟩ := Rw_bool Try.underlying4 g8
      obtain ⟨p9, k9, b9⟩ := Rw_string Try.underlying9 H enc w base spare held n2 _ _ g9
      have e9 : [u9] = [Value.string p9] := k9
      obtain ⟨p10, k10, _⟩ := Rw_int Try.underlying3 H enc w base spare held n2 _ _ g10
      have e10 : [u10] = [Value.int .i64 p10] := k10
      obtain ⟨p11, k11, _⟩ := Rw_int Try.underlying3 H enc w base spare held n2 _ _ g11
      have e11 : [u11] = [Value.int .i64 p11] := k11
      injection e0 with e0
      injection e1 with e1
      injection e2 with e2
      injection e3 with e3
      injection e4 with e4
      injection e5 with e5
      injection e6 with e6
      injection e7 with e7
      injection e8 with e8
      injection e9 with e9
      injection e10 with e10
      injection e11 with e11
      subst e0 e1 e2 e3 e4 e5 e6 e7 e8 e9 e10 e11
      refine ⟨⟨A0, c0_, A1, c1_⟩, ⟨l0, l1, p2, p3, p4, p5, p6, p7, p8, p9, p10, p11⟩, rfl, fun hB => ?_⟩
      have hw : ∀ {j : Nat} {t : TypeId} {d : DataW H}, ((#[22, 22, 3, 3, 3, 3, 3, 3, 4, 9, 3, 3] : Array TypeId).toList)[j]? = some t → ([y0.1, y1.1, y2.1, y3.1, y4.1, y5.1, y6.1, y7.1, y8.1, y9.1, y10.1, y11.1] : List (DataW H))[j]? = some d → ∀ m ∈ d.weights Try.prog t, m ≤ reachBytes := by
        intro j t d ht hd m hm
        refine hB m ?_
        have := DataW.weights_mem_each ht hd m hm
        simpa only [List.map_cons, List.map_nil, DataW.weights, Try.underlying24] using this
      have r0 := b0 reachBytes (hw (j := 0) rfl rfl)
      have r1 := b1 reachBytes (hw (j := 1) rfl rfl)
      have r9 := b9 reachBytes (hw (j := 9) rfl rfl)
      have t0 := tok_of r0
      have t1 := tok_of r1
      have hr : reachBytes = 140737488351232 := by decide
      have q0 := r0.2.2.2
      have q1 := r1.2.2.2
      rw [hr] at q0 q1
      exact ⟨⟨⟨r0.2.1, r0.1, r1.2.1, r1.1, t0.2, t1.2⟩, t0, t1, Nat.le_trans r9 (by decide)⟩, by show l0.length ≤ _; omega, by show l1.length ≤ _; omega⟩
set_option maxRecDepth 100000 in
theorem rd26 {H : Type} {enc : TypeId × Value → H} {w : World} {base : Nat} {spare : Nat → Bool} {held : Bool} {n : Nat} {cs : List Value} {x : DataW H × List MemPlace} (hx : DataW.trod enc Try.prog w base spare held n 26 cs = some x) : ∃ L M p g q, cs = (subC L p).toList ++ (.bool g :: (subC M q).toList) ∧ ((∀ m ∈ x.1.weights Try.prog 26, m ≤ reachBytes) → (SubOk w L p ∧ p.p.length ≤ 4398046510976 ∧ p.s.length ≤ 4398046510976) ∧ SubOk w M q ∧ q.p.length ≤ 4398046510976 ∧ q.s.length ≤ 4398046510976) := by
  obtain ⟨xs, n2, _, rfl, hl, hxl, hf⟩ := DataW.trod_struct Try.underlying26 hx
  have c4 : Try.prog.cellsOf 4 = 1 := by kernel_rfl
  have c24 : Try.prog.cellsOf 24 = 12 := by kernel_rfl
  have c26 : Try.prog.cellsOf 26 = 25 := by kernel_rfl
  rw [c26] at hl
  match xs, hxl with
  | [y0, y1, y2], _ =>
    have g0 : DataW.trod enc Try.prog w base spare held n2 24 ((cs.drop 0).take (Try.prog.cellsOf 24)) = some y0 := hf 0 _ rfl
    have g1 : DataW.trod enc Try.prog w base spare held n2 4 ((cs.drop 12).take (Try.prog.cellsOf 4)) = some y1 := hf 1 _ rfl
    have g2 : DataW.trod enc Try.prog w base spare held n2 24 ((cs.drop 13).take (Try.prog.cellsOf 24)) = some y2 := hf 2 _ rfl
    rw [c24] at g0 g2
    rw [c4] at g1
    rw [List.drop_zero] at g0
    obtain ⟨L, p, e0, b0⟩ := rd24 g0
    obtain ⟨g, e1⟩ := Rw_bool Try.underlying4 g1
    obtain ⟨M, q, e2, b2⟩ := rd24 g2
    refine ⟨L, M, p, g, q, ?_, fun hB => ?_⟩
    · have h1 : cs.drop 12 = .bool g :: cs.drop 13 := by
        have := List.take_append_drop 1 (cs.drop 12)
        rw [e1, List.drop_drop] at this
        exact this.symm
      have h2 : cs.drop 13 = (subC M q).toList := by
        rw [← e2, List.take_of_length_le]
        rw [List.length_drop]
        omega
      rw [← h2, ← h1, ← e0, List.take_append_drop]
    · have hw : ∀ {j : Nat} {t : TypeId} {d : DataW H}, ([24, 4, 24] : List TypeId)[j]? = some t → ([y0.1, y1.1, y2.1] : List (DataW H))[j]? = some d → ∀ m ∈ d.weights Try.prog t, m ≤ reachBytes := by
        intro j t d ht hd m hm
        refine hB m ?_
        have := DataW.weights_mem_each ht hd m hm
        simpa only [List.map_cons, List.map_nil, DataW.weights, Try.underlying26] using this
      exact ⟨b0 (hw (j := 0) rfl rfl), b2 (hw (j := 2) rfl rfl)⟩
theorem agg_of {v : Value} {cs : List Value} (h : v.cells.toList = cs) (hl : 2 ≤ cs.length) : v = .agg cs.toArray := by
  subst h
  cases v <;> first | rfl | (simp [Value.cells] at hl; done) | simp [Value.cells]
theorem open_pattern4 {H : Type} {enc : TypeId × Value → H} {W : World} {base : Nat} {spare : Nat → Bool} {held : Bool} {v : Value} {d : DataW H} {ps : List MemPlace} (h : DataW.Trod enc Try.prog W base spare held 26 v d ps) (hb : ∀ m ∈ d.weights Try.prog 26, m ≤ reachBytes) : ∃ L M p g q, v = patV L M ⟨p, g, q⟩ ∧ SubOk W L p ∧ SubOk W M q ∧ (p.p.length ≤ 4398046510976 ∧ p.s.length ≤ 4398046510976 ∧ q.p.length ≤ 4398046510976 ∧ q.s.length ≤ 4398046510976) := by
  obtain ⟨fuel, hf⟩ := h
  obtain ⟨L, M, p, g, q, e, hs⟩ := rd26 hf
  exact ⟨L, M, p, g, q, agg_of e (by simp), (hs hb).1.1, (hs hb).2.1, (hs hb).1.2.1, (hs hb).1.2.2, (hs hb).2.2.1, (hs hb).2.2.2⟩
end Go.Proofs.Ytacnjemndfmbhaa.Rd
end

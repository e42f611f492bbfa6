/- Plain law: what CursorBack's first loop gathers passes; a slice of things as it is read. -/
import Derived.Test.YtfhlnmgaammofaaC8
import Derived.Test.YtfhlnmgaammofaaRd
namespace Go.Proofs.Ytfhlnmgaammofaa.Rd
open Go.RowKit Go.Deep Go.Proofs.Ytfhlnmgaammofaa.Q Go.Proofs.YtfhlnmgaammofaaW.PrintWords
set_option linter.unusedVariables false
theorem rd52 : Rd k52 52 (fun x => x.f2.size ≤ maxLen) (fun x => x.f2.size + 1) := by
  intro H enc w base spare held n cs x hx
  obtain ⟨xs, n2, _, rfl, hl, hxl, hf⟩ := DataW.trod_struct Try.underlying52 hx
  have c3 : Try.prog.cellsOf 3 = 1 := by kernel_rfl
  have c9 : Try.prog.cellsOf 9 = 1 := by kernel_rfl
  have c52 : Try.prog.cellsOf 52 = 3 := by kernel_rfl
  rw [c52] at hl
  match xs, hxl with
  | [y0, y1, y2], _ =>
    have g0 := hf 0 _ rfl
    have g1 := hf 1 _ rfl
    have g2 := hf 2 _ rfl
    simp only [c3, c9, List.drop_zero, List.getElem?_cons_zero, List.getElem?_cons_succ] at g0 g1 g2
    obtain ⟨p0, k0, a0, b0⟩ := Rd_int Try.underlying3 H enc w base spare held n2 _ _ g0
    obtain ⟨p1, k1, a1, b1⟩ := Rd_int Try.underlying3 H enc w base spare held n2 _ _ g1
    obtain ⟨p2, k2, a2, b2⟩ := Rd_string Try.underlying9 H enc w base spare held n2 _ _ g2
    match cs, hl with
    | [v0, v1, v2], _ =>
      refine ⟨⟨p0, p1, p2⟩, ⟨[v0], [v1, v2], rfl, k0, [v1], [v2], rfl, k1, k2⟩, a2, ?_⟩
      show p2.size + 1 ≤ _
      have b2' : p2.size + 1 ≤ Rows.uptoBulk y2.1 := b2
      simp [Rows.uptoBulk, Rows.uptoBulkAll]
      omega
theorem rd47 : Rd (Kd.slice 52 k52) 47 (fun xs => ∀ x ∈ xs, x.f2.size ≤ maxLen) (fun xs => sum (fun x : S52 => x.f2.size + 1) xs + 1) := Rd_slice Try.underlying47 (by kernel_rfl) rd52
theorem sum_len {α : Type} (m : α → Nat) : ∀ l : List α, (∀ x, 1 ≤ m x) → l.length ≤ sum m l
  | [], h => Nat.le_refl _
  | x :: l, h => by have := sum_len m l h; have := h x; simp only [sum, List.length_cons]; omega
theorem sum_mem {α : Type} (m : α → Nat) : ∀ (l : List α) (x : α), x ∈ l → m x ≤ sum m l
  | y :: l, x, h => by
    simp only [sum]
    cases List.mem_cons.1 h with
    | inl e => subst e; omega
    | inr e => have := sum_mem m l x e; omega
end Go.Proofs.Ytfhlnmgaammofaa.Rd
namespace Go.Proofs.Ytfhlnmgaammofaa.R1
open Go.RowKit Go.Proofs.Ytfhlnmgaammofaa.Q Go.Proofs.YtfhlnmgaammofaaW.PrintWords Go.Proofs.YtfhlnmgaammofaaW.PrintLast
set_option linter.unusedVariables false
theorem form_size (t : S52) (h : t.f2.size ≤ 1048576) : (formS t).1.size ≤ 1048580 := by
  unfold formS
  by_cases c1 : t.f0 = 1
  · rw [if_pos c1]; simp [strOfNums_size, putS_length]
  rw [if_neg c1]
  by_cases c2 : t.f0 = 2
  · rw [if_pos c2]; simp [strOfNums_size, putS_length]
  rw [if_neg c2]
  by_cases c4 : t.f0 = 4
  · rw [if_pos c4]; simp [strOfNums_size, putS_length]
  rw [if_neg c4]
  unfold putT
  by_cases d1 : (t.f2.size : Int) > 1024
  · rw [if_pos d1]; exact Nat.zero_le _
  rw [if_neg d1]
  by_cases d2 : runesS t.f2 < 0
  · rw [if_pos d2]; exact Nat.zero_le _
  rw [if_neg d2]
  have e : ((strOfNums (putS t.f2.size 2) ++ t.f2, (0 : Int)).1).size = (strOfNums (putS t.f2.size 2)).size + t.f2.size := ByteArray.size_append
  rw [e, strOfNums_size, putS_length]
  omega
theorem bytesOf_len (s : ByteArray) : (bytesOf s).length = s.size := by
  unfold bytesOf; simp
theorem back_loop (l : List S52) (hl : l.length ≤ 1048576) (hs : ∀ t ∈ l, t.f2.size ≤ 1048576) (k : Nat) : ∀ (d i : Nat) (x3 : List Int) (x4 : List S52), i + d = l.length →
    x3 = x4.flatMap (fun t => bytesOf (formS t).1) → (∀ t ∈ x4, (formS t).2 = true) → (∀ t ∈ x4, t.f2.size ≤ 1048576) → x4.length ≤ i → x3.length ≤ i * 1048580 →
    quipulaw11_CursorBack.l0 (k + d + 1048600) l x3 x4 i = some true := by
  intro d
  induction d with
  | zero =>
    intro i x3 x4 hi h3 hok hsz h4 h3l
    obtain ⟨K, hK⟩ : ∃ K, K = k + 1048599 := ⟨_, rfl⟩
    rw [show k + 0 + 1048600 = K + 1 by omega]
    simp only [quipulaw11_CursorBack.l0]
    rw [if_neg (by omega)]
    congr 1
    unfold backChk
    have e1 : decide (x3 = x4.flatMap fun t => bytesOf (formS t).1) = true := decide_eq_true h3
    have e2 : (x4.all fun t => (formS t).2) = true := by rw [List.all_eq_true]; exact hok
    have e3 : decide (x3.length ≤ 140737488355328 ∧ x4.length ≤ 4398046511104) = true := decide_eq_true ⟨by omega, by omega⟩
    have e4 : decide (∀ t ∈ x4, t.f2.size ≤ 140737488355328) = true := decide_eq_true (fun t ht => by have := hsz t ht; omega)
    rw [e1, e2, e3, e4]; rfl
  | succ d ih =>
    intro i x3 x4 hi h3 hok hsz h4 h3l
    obtain ⟨K, hK⟩ : ∃ K, K = k + d + 1048600 := ⟨_, rfl⟩
    rw [show k + (d + 1) + 1048600 = K + 1 by omega]
    simp only [quipulaw11_CursorBack.l0]
    have hlt : i < l.length := by omega
    obtain ⟨t, ht⟩ : ∃ t, rd_T52 l i = t := ⟨_, rfl⟩
    have htm : t ∈ l := by
      have : rd_T52 l i = l[i] := by simp [rd_T52, List.getD_eq_getElem?_getD, List.getElem?_eq_getElem hlt]
      rw [← ht, this]; exact List.getElem_mem hlt
    have hts := hs t htm
    rw [if_pos (by omega), if_pos (by omega), ht]
    have hlaid := laid_eq t (by omega) (k + d + 1048580 - t.f2.size)
    rw [show k + d + 1048580 - t.f2.size + t.f2.size + 20 = K by omega] at hlaid
    rw [← hK] at ih
    rw [hlaid, Option.bind_some]
    have hw : wrap64 ((i : Int) + 1) = ((i + 1 : Nat) : Int) := by rw [R1.wr _ (by omega) (by omega)]; omega
    have hfs := form_size t hts
    by_cases ho : (formS t).2 = true
    · rw [if_pos ho, if_pos (by omega), if_pos (by omega), hw]
      refine ih (i + 1) _ _ (by omega) ?_ ?_ ?_ ?_ ?_
      · rw [List.flatMap_append, h3]; simp
      · intro u hu
        rcases List.mem_append.1 hu with h | h
        · exact hok u h
        · rw [List.mem_singleton] at h; rw [h]; exact ho
      · intro u hu
        rcases List.mem_append.1 hu with h | h
        · exact hsz u h
        · rw [List.mem_singleton] at h; rw [h]; exact hts
      · rw [List.length_append]; simp; omega
      · rw [List.length_append, bytesOf_len]; omega
    · rw [if_neg ho, hw]
      have q1 : x4.length ≤ i + 1 := Nat.le_succ_of_le h4
      have q2 : x3.length ≤ (i + 1) * 1048580 := Nat.le_trans h3l (Nat.mul_le_mul_right _ (Nat.le_succ i))
      have q3 : i + 1 + d = l.length := by omega
      exact ih (i + 1) x3 x4 q3 h3 hok hsz q1 q2
theorem back_true (l : List S52) (hl : l.length ≤ 1048576) (hs : ∀ t ∈ l, t.f2.size ≤ 1048576) : ∃ K, quipulaw11_CursorBack.f K l = some true := by
  have n1 : ∀ t : S52, t ∈ ([] : List S52) → (formS t).2 = true := by simp
  have n2 : ∀ t : S52, t ∈ ([] : List S52) → t.f2.size ≤ 1048576 := fun t h => absurd h List.not_mem_nil
  have h := back_loop l hl hs 0 l.length 0 [] [] (by omega) rfl n1 n2 (Nat.le_refl _) (Nat.zero_le _)
  obtain ⟨K, hK⟩ : ∃ K, K = 0 + l.length + 1048600 := ⟨_, rfl⟩
  rw [← hK] at h
  exact ⟨K, h⟩
end Go.Proofs.Ytfhlnmgaammofaa.R1

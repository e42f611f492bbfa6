/- Two cursors on two texts. -/
import Derived.Test.YtfhlnmgaammofaaB1
import Derived.Test.YtfhlnmgaammofaaC7
namespace Go.Proofs.Ytfhlnmgaammofaa.R1
open Go.RowKit Go.Proofs.Ytfhlnmgaammofaa.Q Go.Proofs.YtfhlnmgaammofaaW.PrintWords Go.Proofs.YtfhlnmgaammofaaW.PrintLast
set_option linter.unusedVariables false
set_option linter.unusedSimpArgs false

/-- The cursor at block g stands at p of s, the one at x at q of t, both without a fault; below w0's blocks nothing has turned. -/
def Sd (w0 W : World) (g x : Nat) (s t : ByteArray) (p q : Int) : Prop := IsS59 w0 W g s p 0 ∧ IsS59 w0 W x t q 0 ∧ x ≠ g ∧ Below w0.heap.size w0 W
theorem Sd.left {w0 W W1 : World} {g x : Nat} {s t : ByteArray} {p q p1 : Int} (h : Sd w0 W g x s t p q) (h1 : IsS59 w0 W1 g s p1 0) (hb : Below w0.heap.size w0 W1) (hk : KeepBut W W1 g none) : Sd w0 W1 g x s t p1 q :=
  ⟨h1, ⟨hk.blk h.2.1.1 h.2.2.1 (by simp), h.2.1.2⟩, h.2.2.1, hb⟩
theorem Sd.right {w0 W W1 : World} {g x : Nat} {s t : ByteArray} {p q q1 : Int} (h : Sd w0 W g x s t p q) (h1 : IsS59 w0 W1 x t q1 0) (hb : Below w0.heap.size w0 W1) (hk : KeepBut W W1 x none) : Sd w0 W1 g x s t p q1 :=
  ⟨⟨hk.blk h.1.1 (fun e => h.2.2.1 e.symm) (by simp), h.1.2⟩, h1, h.2.2.1, hb⟩
theorem Sd.drewN {w0 W : World} {g x : Nat} {s t : ByteArray} {p q : Int} (h : Sd w0 W g x s t p q) (n : Nat) : Sd w0 (W.drewN n) g x s t p q :=
  ⟨IsS59.drewN h.1 _, IsS59.drewN h.2.1 _, h.2.2.1, pw_below_drewN h.2.2.2 _⟩
theorem Sd.drew1 {w0 W : World} {g x : Nat} {s t : ByteArray} {p q : Int} (h : Sd w0 W g x s t p q) : Sd w0 W.drew g x s t p q :=
  ⟨IsS59.drew h.1, IsS59.drew h.2.1, h.2.2.1, below_drew1 h.2.2.2⟩
/-- A second cursor beside the first. -/
theorem sd_new {w0 w1 w2 : World} {g x : Nat} {s t : ByteArray} (h0 : IsS59 w0 w1 g s 0 0) (hb : Below w0.heap.size w0 w1) (h1 : IsS59 w1 w2 x t 0 0) (hb1 : Below w1.heap.size w1 w2) : Sd w0 w2 g x s t 0 0 :=
  ⟨IsS59.below h0 hb1, ⟨h1.1, Nat.le_trans hb.size h1.2⟩, fun e => by have a := h0.lt; have b := h1.2; omega, hb.trans (hb1.mono hb.size)⟩

section
variable {w0 w : World} {g x : Nat} {T z c : ByteArray} {pre post : List S52} {t : S52} {p q : Int}
theorem sd_read (h : Sd w0 w g x T z (cat pre).size q) (e : T = cat pre ++ ((formS t).1 ++ c)) (ht : t.f2.size ≤ 140737488355328) (hok : (formS t).2 = true) (hs : T.size ≤ 281474976710656) :
    Calls Try.prog 34 #[.pointer (some ⟨g, 0, none⟩), .agg #[.int .i64 t.f0, .int .i64 t.f1, .string t.f2]] w fun en w' => en = .returned (.bool true) ∧ Sd w0 w' g x T z ((cat pre).size + (formS t).1.size) q := by
  subst e
  refine (quipulaw11_read.calls _ g _ _ 0 t.f0 t.f1 t.f2 true _ _ 0 w0 w h.1 h.2.2.2 (read_eq (cat pre) c t _ rfl ht hok hs _ (Nat.le_refl _))).mono ?_
  rintro en w' ⟨rfl, hI, hb, hk⟩
  exact ⟨rfl, h.left hI hb hk⟩
theorem sd_read2 (h : Sd w0 w g x z T p (cat pre).size) (e : T = cat pre ++ ((formS t).1 ++ c)) (ht : t.f2.size ≤ 140737488355328) (hok : (formS t).2 = true) (hs : T.size ≤ 281474976710656) :
    Calls Try.prog 34 #[.pointer (some ⟨x, 0, none⟩), .agg #[.int .i64 t.f0, .int .i64 t.f1, .string t.f2]] w fun en w' => en = .returned (.bool true) ∧ Sd w0 w' g x z T p ((cat pre).size + (formS t).1.size) := by
  subst e
  refine (quipulaw11_read.calls _ x _ _ 0 t.f0 t.f1 t.f2 true _ _ 0 w0 w h.2.1 h.2.2.2 (read_eq (cat pre) c t _ rfl ht hok hs _ (Nat.le_refl _))).mono ?_
  rintro en w' ⟨rfl, hI, hb, hk⟩
  exact ⟨rfl, h.right hI hb hk⟩
theorem end_eq (s : ByteArray) (p : Int) (h1 : p ≤ s.size) : cursor_Cursor_End.f 1 s p 0 = some ((enS s p 0).1, (enS s p 0).2, s, p, 0) := by
  unfold cursor_Cursor_End.f cursor_Cursor_End.j0 enS
  by_cases d : p < s.size
  · have : (p == (s.size : Int)) = false := beq_eq_false_iff_ne.mpr (by omega)
    simp [d, this]
  · have : (p == (s.size : Int)) = true := beq_iff_eq.mpr (by omega)
    simp [d, this]
theorem sd_end (h : Sd w0 w g x T z p q) (e : p = T.size) :
    Calls Try.prog 31 #[.pointer (some ⟨g, 0, none⟩)] w fun en w' => en = .returned (.tuple #[.int .i64 0, .int .i64 0]) ∧ Sd w0 w' g x T z p q := by
  have e0 : enS T p 0 = (0, 0) := by unfold enS; rw [if_pos rfl, if_neg (by omega)]
  have := end_eq T p (by omega)
  rw [e0] at this
  refine (cursor_Cursor_End.calls 1 g T p 0 0 0 T p 0 w0 w h.1 h.2.2.2 this).mono ?_
  rintro en w' ⟨rfl, hI, hb, hk⟩
  exact ⟨rfl, h.left hI hb hk⟩
theorem sd_end2 (h : Sd w0 w g x z T p q) (e : q < T.size) (n : Int) (hn : n = q) :
    Calls Try.prog 31 #[.pointer (some ⟨x, 0, none⟩)] w fun en w' => en = .returned (.tuple #[.int .i64 113, .int .i64 n]) ∧ Sd w0 w' g x z T p q := by
  subst hn
  have e0 : enS T n 0 = (113, n) := by unfold enS; rw [if_pos rfl, if_pos e]
  have := end_eq T n (by omega)
  rw [e0] at this
  refine (cursor_Cursor_End.calls 1 x T n 0 113 n T n 0 w0 w h.2.1 h.2.2.2 this).mono ?_
  rintro en w' ⟨rfl, hI, hb, hk⟩
  exact ⟨rfl, h.right hI hb hk⟩
end
theorem cat_app : ∀ a b : List S52, cat (a ++ b) = cat a ++ cat b
  | [], b => by simp [cat]
  | t :: a, b => by simp only [List.cons_append, cat]; rw [cat_app a b, ByteArray.append_assoc]
theorem cat_one (pre : List S52) (t : S52) : ((cat (pre ++ [t])).size : Int) = (cat pre).size + (formS t).1.size := by
  rw [cat_app, size_app]; simp [cat]
theorem rd_mid (pre post : List S52) (t : S52) (i : Int) (hi : i = pre.length) : rd_T52 (pre ++ t :: post) i = t := by
  subst hi
  simp [rd_T52, List.getD_eq_getElem?_getD]
theorem chk_out {all : List Int} {l : List S52} (h : backChk all l = true) : all = (l.flatMap fun t => bytesOf (formS t).1) ∧ (∀ t ∈ l, (formS t).2 = true) ∧ (all.length ≤ 140737488355328 ∧ l.length ≤ 4398046511104) ∧ ∀ t ∈ l, t.f2.size ≤ 140737488355328 := by
  unfold backChk at h
  simp only [Bool.and_eq_true, decide_eq_true_eq, List.all_eq_true] at h
  exact ⟨h.1.1.1, h.1.1.2, h.1.2, h.2⟩
end Go.Proofs.Ytfhlnmgaammofaa.R1

/- CursorReads, walked: a cursor and the document's cursor over the same bytes, read in the same way, tell the same. -/
import Derived.Test.YtfhlnmgaammofaaQx8
import Derived.Test.YtfhlnmgaammofaaQx9
import Derived.Test.YtfhlnmgaammofaaPureCursorOnce
namespace Go.Proofs.Ytfhlnmgaammofaa.R1
open Go.RowKit Go.Proofs.Ytfhlnmgaammofaa.Q Go.Proofs.YtfhlnmgaammofaaW.PrintWords Go.Proofs.YtfhlnmgaammofaaW.PrintLast Go.Proofs.YtfhlnmgaammofaaW.PrintMore
set_option linter.unusedVariables false
set_option linter.unusedSimpArgs false

/-! ### What the document's cursor computes -/
theorem refGet_l (s : ByteArray) (p : Int) (n : Nat) (hs : s.size ≤ 281474976710656) (hn : n ≤ 4) (h0 : 0 ≤ p) (h1 : p + n ≤ s.size) (k : Nat) : ∀ (d i : Nat), i + d = n → quipuref11_Cursor_Get.l0 (k + d + 1) n (beNum s p i) i s p 0 = some (beNum s p n, s, p + n, 0)
  | 0, i, hi => by
    obtain rfl : i = n := by omega
    rw [quipuref11_Cursor_Get.l0, if_neg (by omega), wr (p + i) (by omega) (by omega)]
  | d + 1, i, hi => by
    have hr := beNum_range s p i
    have hp : (256 : Int) ^ i ≤ 256 ^ 3 := by
      have : i = 0 ∨ i = 1 ∨ i = 2 ∨ i = 3 := by omega
      rcases this with rfl | rfl | rfl | rfl <;> decide
    have hb := bt_range s (p + i)
    have hm : (256 : Int) ^ 3 = 16777216 := by decide
    rw [show k + (d + 1) + 1 = (k + d + 1) + 1 by omega, quipuref11_Cursor_Get.l0, if_pos (by omega), wr (p + i) (by omega) (by omega), if_pos (by omega), if_pos (by omega), wr (256 * beNum s p i) (by omega) (by omega), wr (bt s (p + i)) hb.1 (by omega), wr _ (by omega) (by omega), wr ((i : Int) + 1) (by omega) (by omega)]
    have := refGet_l s p n hs hn h0 h1 k d (i + 1) (by omega)
    rw [show beNum s p (i + 1) = 256 * beNum s p i + bt s (p + i) by simp only [beNum]; omega] at this
    exact this
theorem refGet (s : ByteArray) (p e : Int) (n : Nat) (hs : s.size ≤ 281474976710656) (hn : n ≤ 4) (h0 : 0 ≤ p) (h1 : p ≤ s.size) (k : Nat) : quipuref11_Cursor_Get.f (k + 5) s p e n = some (getS n s p e) := by
  unfold quipuref11_Cursor_Get.f getS
  rw [wr ((s.size : Int) - p) (by omega) (by omega)]
  by_cases c : e = 0
  · subst c
    rw [if_pos rfl, if_pos rfl]
    by_cases c2 : p + n ≤ s.size
    · rw [if_neg (by omega), if_pos c2]
      have := refGet_l s p n hs hn h0 c2 (k + 4 - n) n 0 (by omega)
      rwa [show k + 4 - n + n + 1 = k + 5 by omega] at this
    · rw [if_pos (by omega), if_neg c2]
  · rw [if_neg c, if_neg c]
theorem refText (s : ByteArray) (p e m : Int) (hs : s.size ≤ 281474976710656) (h0 : 0 ≤ p) (h1 : p ≤ s.size) (k : Nat) : quipuref11_Cursor_Text.f (k + s.size + 20) s p e m = some (textS s p e m) := by
  have hb := beNum_range2 s p
  unfold quipuref11_Cursor_Text.f textS
  have hg := refGet s p e 2 hs (by omega) h0 h1 (k + s.size + 15)
  rw [show k + s.size + 15 + 5 = k + s.size + 20 by omega] at hg
  rw [show ((2 : Nat) : Int) = 2 from rfl] at hg
  rw [hg, Option.bind_some]
  unfold getS
  by_cases c : e = 0
  · subst c
    simp only [if_true]
    by_cases c2 : p + 2 ≤ s.size
    · have c2' : p + ((2 : Nat) : Int) ≤ s.size := c2
      rw [if_pos c2', if_pos c2]
      simp only [if_true]
      by_cases c3 : beNum s p 2 > m
      · rw [if_pos c3, if_pos c3]; rfl
      · rw [if_neg c3, if_neg c3, wr ((s.size : Int) - p) (by omega) (by omega), wr ((s.size : Int) - p - 2) (by omega) (by omega), wr (p + 2) (by omega) (by omega)]
        by_cases c4 : p + 2 + beNum s p 2 ≤ s.size
        · have hz := size_cut s (p + 2) (beNum s p 2) (by omega) (by omega) (by omega)
          have hv := more (fun k => quipuref11_Runes.mono _ k) (show _ ≤ k + s.size + 20 by omega) (refRunes (s.extract (p + 2).toNat (p + 2 + beNum s p 2).toNat) (by omega) 0)
          rw [if_neg (by omega), if_pos c4, wr (p + 2 + beNum s p 2) (by omega) (by omega), if_pos (by omega), if_pos (by omega), if_pos (by omega), hv, Option.bind_some]
          by_cases c5 : runesS (s.extract (p + 2).toNat (p + 2 + beNum s p 2).toNat) ≥ 0
          · rw [if_pos c5, if_neg (by omega)]
          · rw [if_neg c5, if_pos (by omega)]; rfl
        · rw [if_neg c4, if_pos (by omega)]; rfl
    · have c2' : ¬ p + ((2 : Nat) : Int) ≤ s.size := c2
      rw [if_neg c2', if_neg c2]
      simp; rfl
  · rw [if_neg c, if_neg c]
    simp only [if_neg c]; rfl

/-! ### Two cursors in memory -/
/-- The cursor at block g stands at p with the fault e, the document's at block x at q with f; below w0's blocks nothing has turned. -/
def St (w0 W : World) (g x : Nat) (s : ByteArray) (p e q f : Int) : Prop := IsS59 w0 W g s p e ∧ IsS45 w0 W x s q f ∧ Below w0.heap.size w0 W
theorem St.ne {w0 W : World} {g x : Nat} {s : ByteArray} {p e q f : Int} (h : St w0 W g x s p e q f) : x ≠ g := fun hx => by
  obtain ⟨⟨h1, _⟩, ⟨h2, _⟩, _⟩ := h
  subst hx
  exact blk_ne h1 h2 (by decide) rfl
theorem St.left {w0 W W1 : World} {g x : Nat} {s : ByteArray} {p e q f p1 e1 : Int} (h : St w0 W g x s p e q f) (h1 : IsS59 w0 W1 g s p1 e1) (hb : Below w0.heap.size w0 W1) (hk : KeepBut W W1 g none) : St w0 W1 g x s p1 e1 q f :=
  ⟨h1, ⟨hk.blk h.2.1.1 h.ne (by simp), h.2.1.2⟩, hb⟩
theorem St.right {w0 W W1 : World} {g x : Nat} {s : ByteArray} {p e q f q1 f1 : Int} (h : St w0 W g x s p e q f) (h1 : IsS45 w0 W1 x s q1 f1) (hb : Below w0.heap.size w0 W1) (hk : KeepBut W W1 x none) : St w0 W1 g x s p e q1 f1 :=
  ⟨⟨hk.blk h.1.1 (fun e => h.ne e.symm) (by simp), h.1.2⟩, h1, hb⟩

def faS (p e : Int) : Int × Int := if e = 0 then (0, 0) else (e, p)
def enS (s : ByteArray) (p e : Int) : Int × Int := if e = 0 then (if p < s.size then (113, p) else (0, 0)) else (e, p)
section
variable {w0 w : World} {g x : Nat} {s : ByteArray} {p e q f : Int} (h : St w0 w g x s p e q f) (hs : s.size ≤ 281474976710656) (h0 : 0 ≤ p) (h1 : p ≤ s.size)
include h
theorem st_fault : Calls Try.prog 23 #[.pointer (some ⟨g, 0, none⟩)] w fun en w' => en = .returned (.tuple #[.int .i64 (faS p e).1, .int .i64 (faS p e).2]) ∧ St w0 w' g x s p e q f := by
  refine (cursor_Cursor_Fault.calls g s p e (faS p e).1 (faS p e).2 s p e w0 w h.1 h.2.2 (by unfold cursor_Cursor_Fault.f faS; by_cases c : e = 0 <;> simp [c])).mono ?_
  rintro en w' ⟨rfl, hI, hb, hk⟩
  exact ⟨rfl, h.left hI hb hk⟩
theorem st_rfault : Calls Try.prog 30 #[.pointer (some ⟨x, 0, none⟩)] w fun en w' => en = .returned (.tuple #[.int .i64 (faS q f).1, .int .i64 (faS q f).2]) ∧ St w0 w' g x s p e q f := by
  refine (quipuref11_Cursor_Fault.calls x s q f (faS q f).1 (faS q f).2 s q f w0 w h.2.1 h.2.2 (by unfold quipuref11_Cursor_Fault.f faS; by_cases c : f = 0 <;> simp [c])).mono ?_
  rintro en w' ⟨rfl, hI, hb, hk⟩
  exact ⟨rfl, h.right hI hb hk⟩
theorem st_rend : Calls Try.prog 32 #[.pointer (some ⟨x, 0, none⟩)] w fun en w' => en = .returned (.tuple #[.int .i64 (enS s q f).1, .int .i64 (enS s q f).2]) ∧ St w0 w' g x s p e q f := by
  refine (quipuref11_Cursor_End.calls x s q f (enS s q f).1 (enS s q f).2 s q f w0 w h.2.1 h.2.2 (by unfold quipuref11_Cursor_End.f quipuref11_Cursor_Fault.f enS; by_cases c : f = 0 <;> by_cases d : q < s.size <;> simp [c, d])).mono ?_
  rintro en w' ⟨rfl, hI, hb, hk⟩
  exact ⟨rfl, h.right hI hb hk⟩
include h1
theorem st_end : Calls Try.prog 31 #[.pointer (some ⟨g, 0, none⟩)] w fun en w' => en = .returned (.tuple #[.int .i64 (enS s p e).1, .int .i64 (enS s p e).2]) ∧ St w0 w' g x s p e q f := by
  refine (cursor_Cursor_End.calls 1 g s p e (enS s p e).1 (enS s p e).2 s p e w0 w h.1 h.2.2 ?_).mono ?_
  · unfold cursor_Cursor_End.f cursor_Cursor_End.j0 enS
    by_cases c : e = 0
    · by_cases d : p < s.size
      · have : (p == (s.size : Int)) = false := beq_eq_false_iff_ne.mpr (by omega)
        simp [c, d, this]
      · have : (p == (s.size : Int)) = true := beq_iff_eq.mpr (by omega)
        simp [c, d, this]
    · simp [c]
  rintro en w' ⟨rfl, hI, hb, hk⟩
  exact ⟨rfl, h.left hI hb hk⟩
include hs h0
theorem st_get8 : Calls Try.prog 24 #[.pointer (some ⟨g, 0, none⟩)] w fun en w' => en = .returned (.int .i64 (getS 1 s p e).1) ∧ St w0 w' g x s (getS 1 s p e).2.2.1 (getS 1 s p e).2.2.2 q f := by
  have hsame : (getS 1 s p e).2.1 = s := by unfold getS; repeat' split
                                            all_goals rfl
  refine (cursor_Cursor_Get8.calls g s p e (getS 1 s p e).1 (getS 1 s p e).2.1 (getS 1 s p e).2.2.1 (getS 1 s p e).2.2.2 w0 w h.1 h.2.2 (get8 s p e hs h0 h1)).mono ?_
  rintro en w' ⟨rfl, hI, hb, hk⟩
  rw [hsame] at hI
  exact ⟨rfl, h.left hI hb hk⟩
theorem st_get16 : Calls Try.prog 25 #[.pointer (some ⟨g, 0, none⟩)] w fun en w' => en = .returned (.int .i64 (getS 2 s p e).1) ∧ St w0 w' g x s (getS 2 s p e).2.2.1 (getS 2 s p e).2.2.2 q f := by
  have hsame : (getS 2 s p e).2.1 = s := by unfold getS; repeat' split
                                            all_goals rfl
  refine (cursor_Cursor_Get16.calls g s p e (getS 2 s p e).1 (getS 2 s p e).2.1 (getS 2 s p e).2.2.1 (getS 2 s p e).2.2.2 w0 w h.1 h.2.2 (get16 s p e hs h0 h1)).mono ?_
  rintro en w' ⟨rfl, hI, hb, hk⟩
  rw [hsame] at hI
  exact ⟨rfl, h.left hI hb hk⟩
theorem st_get32 : Calls Try.prog 26 #[.pointer (some ⟨g, 0, none⟩)] w fun en w' => en = .returned (.int .i64 (getS 4 s p e).1) ∧ St w0 w' g x s (getS 4 s p e).2.2.1 (getS 4 s p e).2.2.2 q f := by
  have hsame : (getS 4 s p e).2.1 = s := by unfold getS; repeat' split
                                            all_goals rfl
  refine (cursor_Cursor_Get32.calls g s p e (getS 4 s p e).1 (getS 4 s p e).2.1 (getS 4 s p e).2.2.1 (getS 4 s p e).2.2.2 w0 w h.1 h.2.2 (get32 s p e hs h0 h1)).mono ?_
  rintro en w' ⟨rfl, hI, hb, hk⟩
  rw [hsame] at hI
  exact ⟨rfl, h.left hI hb hk⟩
theorem st_text (m : Int) : Calls Try.prog 27 #[.pointer (some ⟨g, 0, none⟩), .int .i64 m] w fun en w' => en = .returned (.string (textS s p e m).1) ∧ St w0 w' g x s (textS s p e m).2.2.1 (textS s p e m).2.2.2 q f ∧ KeepBut w w' g none := by
  have hsame : (textS s p e m).2.1 = s := by unfold textS; repeat' split
                                             all_goals rfl
  refine (cursor_Cursor_Text.calls _ g s p e m (textS s p e m).1 (textS s p e m).2.1 (textS s p e m).2.2.1 (textS s p e m).2.2.2 w0 w h.1 h.2.2 (getText s p e m hs h0 h1 0)).mono ?_
  rintro en w' ⟨rfl, hI, hb, hk⟩
  rw [hsame] at hI
  exact ⟨rfl, h.left hI hb hk, hk⟩
end
section
variable {w0 w : World} {g x : Nat} {s : ByteArray} {p e q f : Int} (h : St w0 w g x s p e q f) (hs : s.size ≤ 281474976710656) (h0 : 0 ≤ q) (h1 : q ≤ s.size)
include h hs h0 h1
theorem st_rget (n : Nat) (hn : n ≤ 4) : Calls Try.prog 28 #[.pointer (some ⟨x, 0, none⟩), .int .i64 n] w fun en w' => en = .returned (.int .i64 (getS n s q f).1) ∧ St w0 w' g x s p e (getS n s q f).2.2.1 (getS n s q f).2.2.2 := by
  have hsame : (getS n s q f).2.1 = s := by unfold getS; repeat' split
                                            all_goals rfl
  refine (quipuref11_Cursor_Get.calls _ x s q f n (getS n s q f).1 (getS n s q f).2.1 (getS n s q f).2.2.1 (getS n s q f).2.2.2 w0 w h.2.1 h.2.2 (refGet s q f n hs hn h0 h1 0)).mono ?_
  rintro en w' ⟨rfl, hI, hb, hk⟩
  rw [hsame] at hI
  exact ⟨rfl, h.right hI hb hk⟩
theorem st_rtext (m : Int) : Calls Try.prog 29 #[.pointer (some ⟨x, 0, none⟩), .int .i64 m] w fun en w' => en = .returned (.string (textS s q f m).1) ∧ St w0 w' g x s p e (textS s q f m).2.2.1 (textS s q f m).2.2.2 ∧ KeepBut w w' x none := by
  have hsame : (textS s q f m).2.1 = s := by unfold textS; repeat' split
                                             all_goals rfl
  refine (quipuref11_Cursor_Text.calls _ x s q f m (textS s q f m).1 (textS s q f m).2.1 (textS s q f m).2.2.1 (textS s q f m).2.2.2 w0 w h.2.1 h.2.2 (refText s q f m hs h0 h1 0)).mono ?_
  rintro en w' ⟨rfl, hI, hb, hk⟩
  rw [hsame] at hI
  exact ⟨rfl, h.right hI hb hk, hk⟩
end
theorem st_at (w : World) (g : Nat) (p : Int) (hc : w.cell? ⟨g, 1, none⟩ = some (.int .i64 p)) : Calls Try.prog 22 #[.pointer (some ⟨g, 0, none⟩)] w fun en w' => en = .returned (.int .i64 p) ∧ w' = w := by
  go_enter Try.func22, Try.ntmps22
  go_wp2
  go_ret
  exact ⟨rfl, rfl⟩
theorem getS_in (n : Nat) (s : ByteArray) (p e : Int) (h0 : 0 ≤ p) (h1 : p ≤ s.size) : 0 ≤ (getS n s p e).2.2.1 ∧ (getS n s p e).2.2.1 ≤ s.size := by
  unfold getS; repeat' split
  all_goals constructor <;> dsimp only <;> omega
theorem textS_in (s : ByteArray) (p e m : Int) (h0 : 0 ≤ p) (h1 : p ≤ s.size) : 0 ≤ (textS s p e m).2.2.1 ∧ (textS s p e m).2.2.1 ≤ s.size := by
  have := beNum_range2 s p
  unfold textS; repeat' split
  all_goals constructor <;> dsimp only <;> omega
end Go.Proofs.Ytfhlnmgaammofaa.R1

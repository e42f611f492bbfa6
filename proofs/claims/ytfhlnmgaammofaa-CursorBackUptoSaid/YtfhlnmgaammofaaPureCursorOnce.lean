/- Proved: for every text of at most 2^47 - 4096 bytes and every script of reads, CursorOnce answers true (the law in plain Lean; the row lies in the Law text). -/
import Derived.Test.YtfhlnmgaammofaaQx7
import Derived.Test.YtfhlnmgaammofaaR2
import Derived.Test.YtfhlnmgaammofaaR3
import Derived.Test.YtfhlnmgaammofaaR4
namespace Go.Proofs.Ytfhlnmgaammofaa.R1
open Go.RowKit Go.Proofs.Ytfhlnmgaammofaa.Q Go.Proofs.YtfhlnmgaammofaaW.PrintWords Go.Proofs.YtfhlnmgaammofaaW.PrintLast
set_option linter.unusedVariables false
set_option linter.unusedSimpArgs false
set_option linter.unusedSectionVars false

theorem bt_strOfNums (xs : List Int) (hx : ∀ x ∈ xs, 0 ≤ x ∧ x ≤ 255) (i : Nat) (h : i < xs.length) : bt (strOfNums xs) i = xs[i] := by
  have h1 : (i : Int).toNat < (strOfNums xs).size := by rw [strOfNums_size]; simpa using h
  have hr := hx _ (List.getElem_mem h)
  simp only [bt, h1, dite_true]
  have : (strOfNums xs)[(i : Int).toNat] = (strOfNums xs).data.toList[i]'(by rw [strOfNums_data]; simpa using h) := rfl
  rw [this]
  simp only [strOfNums_data, List.getElem_map]
  rw [UInt8.toNat_ofNat_of_lt' (by have : UInt8.size = 256 := rfl; omega)]
  omega

/-- Texts of one length that hold the same bytes are one. -/
theorem text_ext (s t : ByteArray) (h : s.size = t.size) (hb : ∀ i : Nat, i < s.size → bt s i = bt t i) : s = t := by
  apply ByteArray.ext
  apply Array.ext
  · exact h
  · intro i h1 h2
    have := hb i h1
    have a1 : (i : Int).toNat < s.size := by simpa using h1
    have a2 : (i : Int).toNat < t.size := by simpa using h2
    simp only [bt, a1, a2, dite_true] at this
    have e : (s[(i : Int).toNat]'a1).toNat = (t[(i : Int).toNat]'a2).toNat := by omega
    exact UInt8.toNat_inj.1 e

theorem putS_range (n : Int) : ∀ m, ∀ x ∈ putS n m, 0 ≤ x ∧ x ≤ 255
  | 0, x, h => by simp [putS] at h
  | m + 1, x, h => by
    simp only [putS, List.mem_cons] at h
    rcases h with rfl | h
    · omega
    · exact putS_range n m x h

theorem laid_again (s : ByteArray) (p : Int) (n : Nat) (hn : n = 1 ∨ n = 2 ∨ n = 4) (h0 : 0 ≤ p) (h1 : p + n ≤ s.size) :
    s.extract p.toNat (p + n).toNat = strOfNums (putS (beNum s p n) n) := by
  have hz := size_cut s p n h0 (by omega) h1
  have b0 := bt_range s p
  have b1 := bt_range s (p + 1)
  have b2 := bt_range s (p + 2)
  have b3 := bt_range s (p + 3)
  refine text_ext _ _ (by rw [strOfNums_size, putS_length]; omega) (fun i hi => ?_)
  rw [bt_cut s p n i h0 (by omega) (by omega) h1, bt_strOfNums _ (putS_range _ _) i (by rw [putS_length]; omega)]
  rcases hn with rfl | rfl | rfl
  · have : i = 0 := by omega
    subst this
    simp [putS, beNum]; omega
  · have : i = 0 ∨ i = 1 := by omega
    rcases this with rfl | rfl <;> simp [putS, beNum] <;> omega
  · have : i = 0 ∨ i = 1 ∨ i = 2 ∨ i = 3 := by omega
    rcases this with rfl | rfl | rfl | rfl <;> simp [putS, beNum] <;> omega

theorem cut_app (s : ByteArray) (p m n : Int) (h0 : 0 ≤ p) (hm : 0 ≤ m) (hn : 0 ≤ n) (h1 : p + m + n ≤ s.size) :
    s.extract p.toNat (p + m + n).toNat = s.extract p.toNat (p + m).toNat ++ s.extract (p + m).toNat (p + m + n).toNat := by
  have z1 := size_cut s p (m + n) h0 (by omega) (by omega)
  have z2 := size_cut s p m h0 (by omega) (by omega)
  have z3 := size_cut s (p + m) n (by omega) (by omega) (by omega)
  rw [← Int.add_assoc] at z1
  refine text_ext _ _ ?_ (fun i hi => ?_)
  · have := size_app (s.extract p.toNat (p + m).toNat) (s.extract (p + m).toNat (p + m + n).toNat); omega
  · have e1 : bt (s.extract p.toNat (p + m + n).toNat) i = bt s (p + i) := by
      rw [Int.add_assoc p m n]; exact bt_cut s p (m + n) i h0 (by omega) (by omega) (by omega)
    rw [e1]
    by_cases c : (i : Int) < m
    · rw [bt_app_left _ _ _ (by omega) (by omega), bt_cut s p m i h0 (by omega) c (by omega)]
    · have : (i : Int) = (s.extract p.toNat (p + m).toNat).size + (i - m) := by omega
      rw [this, bt_app_right _ _ _ (by omega), bt_cut s (p + m) n (i - m) (by omega) (by omega) (by omega) (by omega)]
      congr 1; omega

/-- What a read of n bytes tells of a cursor that stands at p with the fault e. -/
def getS (n : Nat) (s : ByteArray) (p e : Int) : Int × ByteArray × Int × Int :=
  if e = 0 then (if p + n ≤ (s.size : Int) then (beNum s p n, s, p + n, 0) else (0, s, p, 110)) else (0, s, p, e)
theorem get8 (s : ByteArray) (p e : Int) (hs : s.size ≤ 281474976710656) (h0 : 0 ≤ p) (h1 : p ≤ s.size) : cursor_Cursor_Get8.f s p e = some (getS 1 s p e) := by
  unfold cursor_Cursor_Get8.f getS; rw [if_pos ⟨h0, h1, by omega⟩]; repeat' split
  all_goals first | rfl | (exfalso; omega)
theorem get16 (s : ByteArray) (p e : Int) (hs : s.size ≤ 281474976710656) (h0 : 0 ≤ p) (h1 : p ≤ s.size) : cursor_Cursor_Get16.f s p e = some (getS 2 s p e) := by
  unfold cursor_Cursor_Get16.f getS; rw [if_pos ⟨h0, h1, by omega⟩]; repeat' split
  all_goals first | rfl | (exfalso; omega)
theorem get32 (s : ByteArray) (p e : Int) (hs : s.size ≤ 281474976710656) (h0 : 0 ≤ p) (h1 : p ≤ s.size) : cursor_Cursor_Get32.f s p e = some (getS 4 s p e) := by
  unfold cursor_Cursor_Get32.f getS; rw [if_pos ⟨h0, h1, by omega⟩]; repeat' split
  all_goals first | rfl | (exfalso; omega)
/-- .. and a read of a text of m bytes at most. -/
def textS (s : ByteArray) (p e m : Int) : ByteArray × ByteArray × Int × Int :=
  if e = 0 then
    (if p + 2 ≤ (s.size : Int) then
      (if beNum s p 2 > m then (ByteArray.empty, s, p, 112)
       else if p + 2 + beNum s p 2 ≤ (s.size : Int) then
         (if runesS (s.extract (p + 2).toNat (p + 2 + beNum s p 2).toNat) ≥ 0 then (s.extract (p + 2).toNat (p + 2 + beNum s p 2).toNat, s, p + 2 + beNum s p 2, 0) else (ByteArray.empty, s, p, 111))
       else (ByteArray.empty, s, p, 110))
     else (ByteArray.empty, s, p, 110))
  else (ByteArray.empty, s, p, e)
theorem beNum_range2 (s : ByteArray) (p : Int) : 0 ≤ beNum s p 2 ∧ beNum s p 2 ≤ 65535 := by
  have b0 := bt_range s p
  have b1 := bt_range s (p + 1)
  simp [beNum]; omega
theorem getText (s : ByteArray) (p e m : Int) (hs : s.size ≤ 281474976710656) (h0 : 0 ≤ p) (h1 : p ≤ s.size) (k : Nat) : cursor_Cursor_Text.f (k + s.size + 10) s p e m = some (textS s p e m) := by
  have hb := beNum_range2 s p
  unfold cursor_Cursor_Text.f textS
  rw [if_pos ⟨h0, h1, by omega⟩]
  by_cases c1 : e = 0
  · rw [if_pos c1, if_pos c1]
    by_cases c2 : p + 2 ≤ s.size
    · rw [if_pos c2, if_pos c2]
      by_cases c3 : beNum s p 2 > m
      · rw [if_pos c3, if_pos c3]
      · rw [if_neg c3, if_neg c3]
        by_cases c4 : p + 2 + beNum s p 2 ≤ s.size
        · rw [if_pos c4, if_pos c4]
          have hz := size_cut s (p + 2) (beNum s p 2) (by omega) (by omega) (by omega)
          have hv := more (fun k => cursor_Valid.mono _ k) (show _ ≤ k + s.size + 10 by omega) (curValid (s.extract (p + 2).toNat (p + 2 + beNum s p 2).toNat) (by omega) 0)
          rw [hv, Option.bind_some]
          by_cases c5 : runesS (s.extract (p + 2).toNat (p + 2 + beNum s p 2).toNat) ≥ 0
          · rw [if_pos c5, if_pos (by simpa using c5)]
          · rw [if_neg c5, if_neg (by simpa using c5)]
        · rw [if_neg c4, if_neg c4]
    · rw [if_neg c2, if_neg c2]
  · rw [if_neg c1, if_neg c1]

section
variable (s : ByteArray) (xs : List S41) (hs : s.size ≤ 281474976710656) (hx : xs.length ≤ 9223372036854775807)
include hs hx
theorem once_j1 (k : Nat) (i was before : Int) (out : ByteArray) (p e : Int) (hi0 : 0 ≤ i) (hi : i < xs.length) (hw : 0 ≤ was) (hp : 0 ≤ p) (hps : p ≤ s.size)
    (h : (e = 0 ∧ was ≤ p ∧ s.extract was.toNat p.toNat = out) ∨ (e ≠ 0 ∧ p = was ∧ (before = 0 ∨ before = e)))
    (ih : quipulaw11_CursorOnce.l0 k s xs (i + 1) s p e = some true) (ih2 : quipulaw11_CursorOnce.l0 (k + 1) s xs (i + 1) s p e = some true) :
    quipulaw11_CursorOnce.j1 (k + 2) s xs i was before out s p e = some true := by
  have e1 : wrap64 (i + 1) = i + 1 := wr _ (by omega) (by omega)
  rw [quipulaw11_CursorOnce.j1]
  rcases h with ⟨rfl, h1, h2⟩ | ⟨h1, h2, h3⟩
  · simp only [cursor_Cursor_Fault.f, cursor_Cursor_At.f, Option.bind_some, if_true]
    rw [if_neg (by omega), if_neg (by omega), if_pos hw, if_pos h1, if_pos hps, if_pos (by rw [h2]), e1]
    exact ih2
  · simp only [cursor_Cursor_Fault.f, cursor_Cursor_At.f, Option.bind_some, if_neg h1, if_pos h2]
    rcases h3 with h3 | h3
    · rw [if_pos h3, quipulaw11_CursorOnce.j2, if_neg (by simp), e1]; exact ih
    · rw [if_neg (by omega), h3, quipulaw11_CursorOnce.j2, if_neg (by simp), e1]; exact ih

theorem once_l : ∀ (d k : Nat) (i p e : Int), 0 ≤ i → (xs.length : Int) - i = d → 0 ≤ p → p ≤ s.size → quipulaw11_CursorOnce.l0 (k + 3 * d + s.size + 100) s xs i s p e = some true
  | 0, k, i, p, e, hi0, hd, hp, hps => by
    rw [show k + 3 * 0 + s.size + 100 = (k + s.size + 99) + 1 by omega, quipulaw11_CursorOnce.l0, if_neg (by omega), fixed_ev _ (by omega)]; rfl
  | d + 1, k, i, p, e, hi0, hd, hp, hps => by
    have hi : i < xs.length := by omega
    have IH := fun k p e h0 h1 => once_l d k (i + 1) p e (by omega) (by omega) h0 h1
    have step : ∀ (out : ByteArray) (q f : Int), 0 ≤ q → q ≤ s.size → ((f = 0 ∧ p ≤ q ∧ s.extract p.toNat q.toNat = out) ∨ (f ≠ 0 ∧ q = p ∧ (e = 0 ∨ e = f))) →
        quipulaw11_CursorOnce.j1 (k + 3 * d + s.size + 102) s xs i p e out s q f = some true := fun out q f h0 h1 h =>
      once_j1 s xs hs hx (k + 3 * d + s.size + 100) i p e out q f hi0 hi hp h0 h1 h (IH k q f h0 h1)
        (by have := IH (k + 1) q f h0 h1; rwa [show k + 1 + 3 * d + s.size + 100 = k + 3 * d + s.size + 100 + 1 by omega] at this)
    have hb2 := beNum_range2 s p
    rw [show k + 3 * (d + 1) + s.size + 100 = (k + 3 * d + s.size + 102) + 1 by omega, quipulaw11_CursorOnce.l0, if_pos hi]
    have hfault : cursor_Cursor_Fault.f s p e = some (e, (if e = 0 then 0 else p), s, p, e) := by
      unfold cursor_Cursor_Fault.f
      by_cases c : e = 0
      · rw [if_pos c, if_pos c, c]
      · rw [if_neg c, if_neg c]
    simp only [cursor_Cursor_At.f, hfault, Option.bind_some, if_pos hi0]
    have getstep : ∀ (n : Nat) (out : ByteArray), (n = 1 ∨ n = 2 ∨ n = 4) → (e = 0 → p + n ≤ s.size → strOfNums (putS (beNum s p n) n) = out) →
        quipulaw11_CursorOnce.j1 (k + 3 * d + s.size + 102) s xs i p e out (getS n s p e).2.1 (getS n s p e).2.2.1 (getS n s p e).2.2.2 = some true := fun n out hn ho => by
      unfold getS
      by_cases c : e = 0
      · rw [if_pos c]
        by_cases c2 : p + n ≤ s.size
        · rw [if_pos c2]
          exact step out (p + n) 0 (by omega) (by omega) (.inl ⟨rfl, by omega, by rw [laid_again s p n hn hp c2]; exact ho c c2⟩)
        · rw [if_neg c2]; exact step out p 110 hp hps (.inr ⟨by omega, rfl, .inl c⟩)
      · rw [if_neg c]; exact step out p e hp hps (.inr ⟨c, rfl, .inr rfl⟩)
    have gval : ∀ (n : Nat), e = 0 → p + n ≤ s.size → (getS n s p e).1 = beNum s p n := fun n c c2 => by unfold getS; rw [if_pos c, if_pos c2]
    by_cases k0 : (rd_T41 xs i).f0 = 0
    · rw [if_pos k0, get8 s p e hs hp hps, Option.bind_some, cursor_Put8.f, curP1 _ _ (by omega), Option.bind_some, Option.bind_some]
      exact getstep 1 _ (by simp) (fun c c2 => by rw [gval 1 c c2])
    rw [if_neg k0]
    by_cases k1 : (rd_T41 xs i).f0 = 1
    · rw [if_pos k1, get16 s p e hs hp hps, Option.bind_some, cursor_Put16.f, curP2 _ _ (by omega), Option.bind_some, Option.bind_some]
      exact getstep 2 _ (by simp) (fun c c2 => by rw [gval 2 c c2])
    rw [if_neg k1]
    by_cases k2 : (rd_T41 xs i).f0 = 2
    · rw [if_pos k2, get32 s p e hs hp hps, Option.bind_some, cursor_Put32.f, curP4 _ _ (by omega), Option.bind_some, Option.bind_some]
      exact getstep 4 _ (by simp) (fun c c2 => by rw [gval 4 c c2])
    rw [if_neg k2]
    by_cases k3 : (rd_T41 xs i).f0 = 3
    · have hmn : mn 1024 (rd_T41 xs i).f1 ≤ 1024 := by unfold mn; split <;> omega
      have hempty : putT ByteArray.empty = (strOfNums (putS 0 2) ++ ByteArray.empty, 0) := by decide +kernel
      have hput : ∀ t : ByteArray, t.size ≤ s.size → cursor_PutText.f (k + 3 * d + s.size + 102) t = some (putT t) := fun t ht =>
        more (fun k => cursor_PutText.mono _ k) (show _ ≤ k + 3 * d + s.size + 102 by omega) (curPutText t (by omega) 0)
      have hz : ByteArray.empty.size = 0 := rfl
      rw [if_pos k3, show k + 3 * d + s.size + 102 = (k + 3 * d + 92) + s.size + 10 by omega, getText s p e _ hs hp hps, show (k + 3 * d + 92) + s.size + 10 = k + 3 * d + s.size + 102 by omega]
      unfold textS
      by_cases c : e = 0
      · rw [if_pos c]
        by_cases c2 : p + 2 ≤ s.size
        · rw [if_pos c2]
          by_cases c3 : beNum s p 2 > mn 1024 (rd_T41 xs i).f1
          · rw [if_pos c3]; dsimp only [Option.bind_some]; rw [hput ByteArray.empty (Nat.zero_le _), Option.bind_some, hempty, if_pos rfl]
            exact step _ p 112 hp hps (.inr ⟨by omega, rfl, .inl c⟩)
          · rw [if_neg c3]
            by_cases c4 : p + 2 + beNum s p 2 ≤ s.size
            · rw [if_pos c4]
              have hz2 := size_cut s (p + 2) (beNum s p 2) (by omega) (by omega) (by omega)
              by_cases c5 : runesS (s.extract (p + 2).toNat (p + 2 + beNum s p 2).toNat) ≥ 0
              · rw [if_pos c5]; dsimp only [Option.bind_some]; rw [hput _ (by omega), Option.bind_some]
                have hpt : putT (s.extract (p + 2).toNat (p + 2 + beNum s p 2).toNat) = (strOfNums (putS (beNum s p 2) 2) ++ s.extract (p + 2).toNat (p + 2 + beNum s p 2).toNat, 0) := by
                  unfold putT; rw [if_neg (by omega), if_neg (by omega), hz2]
                rw [hpt, if_pos rfl]
                refine step _ (p + 2 + beNum s p 2) 0 (by omega) c4 (.inl ⟨rfl, by omega, ?_⟩)
                rw [cut_app s p 2 (beNum s p 2) hp (by omega) (by omega) c4]
                have := laid_again s p 2 (by simp) hp c2
                rw [← this]; rfl
              · rw [if_neg c5]; dsimp only [Option.bind_some]; rw [hput ByteArray.empty (Nat.zero_le _), Option.bind_some, hempty, if_pos rfl]
                exact step _ p 111 hp hps (.inr ⟨by omega, rfl, .inl c⟩)
            · rw [if_neg c4]; dsimp only [Option.bind_some]; rw [hput ByteArray.empty (Nat.zero_le _), Option.bind_some, hempty, if_pos rfl]
              exact step _ p 110 hp hps (.inr ⟨by omega, rfl, .inl c⟩)
        · rw [if_neg c2]; dsimp only [Option.bind_some]; rw [hput ByteArray.empty (Nat.zero_le _), Option.bind_some, hempty, if_pos rfl]
          exact step _ p 110 hp hps (.inr ⟨by omega, rfl, .inl c⟩)
      · rw [if_neg c]; dsimp only [Option.bind_some]; rw [hput ByteArray.empty (Nat.zero_le _), Option.bind_some, hempty, if_pos rfl]
        exact step _ p e hp hps (.inr ⟨c, rfl, .inr rfl⟩)
    · rw [if_neg k3]
      by_cases c : e = 0
      · refine step _ p e hp hps (.inl ⟨c, by omega, ?_⟩)
        refine text_ext _ _ (by rw [ByteArray.size_extract]; show _ = 0; omega) (fun j hj => ?_)
        rw [ByteArray.size_extract] at hj; omega
      · exact step _ p e hp hps (.inr ⟨c, rfl, .inr rfl⟩)
end
end Go.Proofs.Ytfhlnmgaammofaa.R1
namespace Go.Proofs.Ytfhlnmgaammofaa.Pure
open Go.RowKit Go.Proofs.Ytfhlnmgaammofaa.Q Go.Proofs.YtfhlnmgaammofaaW.PrintWords Go.Proofs.YtfhlnmgaammofaaW.PrintLast Go.Proofs.Ytfhlnmgaammofaa.R1
theorem CursorOnce (s : ByteArray) (xs : List S41) (hs : s.size ≤ 281474976710656) (hx : xs.length ≤ 9223372036854775807) : ∃ k, quipulaw11_CursorOnce.f k s xs = some true := by
  refine ⟨0 + 3 * xs.length + s.size + 100, ?_⟩
  unfold quipulaw11_CursorOnce.f
  simp only [cursor_New.f, Option.bind_some]
  exact once_l s xs hs hx xs.length 0 0 0 0 (by omega) (by omega) (by omega) (by omega)
end Go.Proofs.Ytfhlnmgaammofaa.Pure

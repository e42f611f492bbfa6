/- Plain law: things laid one behind the other are read as they were. -/
import Derived.Test.YtfhlnmgaammofaaQx9
import Derived.Test.YtfhlnmgaammofaaQx8
import Derived.Test.YtfhlnmgaammofaaPureCursorOnce
namespace Go.Proofs.Ytfhlnmgaammofaa.R1
open Go.RowKit Go.Proofs.Ytfhlnmgaammofaa.Q Go.Proofs.YtfhlnmgaammofaaW.PrintWords Go.Proofs.YtfhlnmgaammofaaW.PrintLast
set_option linter.unusedVariables false
set_option linter.unusedSimpArgs false

/-- A thing's form, and whether it has one. -/
def formS (t : S52) : ByteArray × Bool :=
  if t.f0 = 1 then (strOfNums (putS t.f1 1), true) else if t.f0 = 2 then (strOfNums (putS t.f1 2), true) else if t.f0 = 4 then (strOfNums (putS t.f1 4), true) else ((putT t.f2).1, (putT t.f2).2 == 0)
theorem laid_eq (t : S52) (hs : t.f2.size ≤ 281474976710656) (k : Nat) : quipulaw11_laid.f (k + t.f2.size + 20) t.f0 t.f1 t.f2 = some (formS t) := by
  unfold quipulaw11_laid.f formS
  by_cases c1 : t.f0 = 1
  · rw [if_pos c1, if_pos c1, cursor_Put8.f, curP1 _ _ (by omega)]; rfl
  rw [if_neg c1, if_neg c1]
  by_cases c2 : t.f0 = 2
  · rw [if_pos c2, if_pos c2, cursor_Put16.f, curP2 _ _ (by omega)]; rfl
  rw [if_neg c2, if_neg c2]
  by_cases c4 : t.f0 = 4
  · rw [if_pos c4, if_pos c4, cursor_Put32.f, curP4 _ _ (by omega)]; rfl
  rw [if_neg c4, if_neg c4]
  have := more (fun k => cursor_PutText.mono _ k) (show _ ≤ k + t.f2.size + 20 by omega) (curPutText t.f2 hs 0)
  rw [this]; rfl

/-- The forms of things, one behind the other. -/
def cat : List S52 → ByteArray
  | [] => ByteArray.empty
  | t :: l => (formS t).1 ++ cat l
theorem strOfNums_app (xs ys : List Int) : strOfNums (xs ++ ys) = strOfNums xs ++ strOfNums ys := by
  apply ByteArray.ext
  apply Array.toList_inj.1
  simp [strOfNums_data, ByteArray.data_append]
theorem strOfNums_bytesOf (s : ByteArray) : strOfNums (bytesOf s) = s := by
  apply ByteArray.ext
  apply Array.toList_inj.1
  rw [strOfNums_data]
  unfold bytesOf
  rw [List.map_map]
  conv => rhs; rw [← List.map_id s.data.toList]
  apply List.map_congr_left
  intro b _
  simp
theorem cat_eq : ∀ l : List S52, strOfNums (l.flatMap fun t => bytesOf (formS t).1) = cat l
  | [] => rfl
  | t :: l => by rw [List.flatMap_cons, strOfNums_app, strOfNums_bytesOf, cat_eq l]; rfl
/-- What the first loop has gathered, where it ends. -/
def backChk (all : List Int) (some_ : List S52) : Bool :=
  decide (all = some_.flatMap fun t => bytesOf (formS t).1) && (some_.all fun t => (formS t).2) && decide (all.length ≤ 140737488355328 ∧ some_.length ≤ 4398046511104) && decide (∀ t ∈ some_, t.f2.size ≤ 140737488355328)

theorem bits_and_mod (x : Int) (i : Nat) (hi : i ≤ 62) : Go.bits .and .i64 x ((2 ^ i - 1 : Nat) : Int) = x % ((2 ^ i : Nat) : Int) := by
  obtain ⟨a, ha⟩ : ∃ a : Nat, x % 18446744073709551616 = a := ⟨(x % 18446744073709551616).toNat, by omega⟩
  have e1 : BitVec.ofInt IntKind.i64.bits x = BitVec.ofNat IntKind.i64.bits a := by
    apply BitVec.eq_of_toInt_eq
    have hb : IntKind.i64.bits = 64 := rfl
    rw [← BitVec.ofInt_natCast, BitVec.toInt_ofInt, BitVec.toInt_ofInt, ← ha, hb]
    exact (Int.emod_bmod x 18446744073709551616).symm
  have hp : 2 ^ i ≤ 2 ^ 62 := Nat.pow_le_pow_right (by decide) hi
  have hpos : 0 < 2 ^ i := Nat.two_pow_pos i
  have ha2 : a < 18446744073709551616 := by omega
  simp only [Go.bits]
  rw [e1, BitVec.ofInt_natCast, BitVec.toNat_and, BitVec.toNat_ofNat, BitVec.toNat_ofNat]
  have hb : IntKind.i64.bits = 64 := rfl
  have q1 : (2 : Nat) ^ 62 < 2 ^ 64 := by decide
  have q2 : (2 : Nat) ^ 64 = 18446744073709551616 := by decide
  have q3 : a < 2 ^ 64 := by omega
  have q4 : 2 ^ i - 1 < 2 ^ 64 := by omega
  rw [hb, Nat.mod_eq_of_lt q3, Nat.mod_eq_of_lt q4, Nat.and_two_pow_sub_one_eq_mod]
  have hm : a % 2 ^ i < 2 ^ i := Nat.mod_lt _ hpos
  have h62 : (2 : Nat) ^ 62 = 4611686018427387904 := by decide
  rw [IntKind.wrap_i64]
  have hdiv : (2 ^ i : Nat) ∣ 18446744073709551616 := by
    have : (18446744073709551616 : Nat) = 2 ^ 64 := by decide
    rw [this]; exact Nat.pow_dvd_pow 2 (by omega)
  have hx : x % ((2 ^ i : Nat) : Int) = ((a % 2 ^ i : Nat) : Int) := by
    rw [Int.natCast_emod, ← ha]
    have hd : ((2 ^ i : Nat) : Int) ∣ ((18446744073709551616 : Nat) : Int) := Int.natCast_dvd_natCast.2 hdiv
    exact (Int.emod_emod_of_dvd x hd).symm
  rw [hx]
  omega

theorem and255 (x : Int) : Go.bits .and .i64 x 255 = x % 256 := bits_and_mod x 8 (by decide)
theorem and65535 (x : Int) : Go.bits .and .i64 x 65535 = x % 65536 := bits_and_mod x 16 (by decide)
theorem and32 (x : Int) : Go.bits .and .i64 x 4294967295 = x % 4294967296 := bits_and_mod x 32 (by decide)

/-- The middle of three texts. -/
theorem bt_mid (a b c : ByteArray) (i : Int) (h0 : 0 ≤ i) (h1 : i < b.size) : bt (a ++ (b ++ c)) (a.size + i) = bt b i := by
  rw [bt_app_right a (b ++ c) i h0, bt_app_left b c i h0 h1]
theorem cut_mid (a b c : ByteArray) (p n : Int) (hp : p = a.size) (hn : n = b.size) : (a ++ (b ++ c)).extract p.toNat (p + n).toNat = b := by
  have s1 := size_app a (b ++ c)
  have s2 := size_app b c
  have hz := size_cut (a ++ (b ++ c)) p n (by omega) (by omega) (by omega)
  refine text_ext _ _ (by omega) (fun i hi => ?_)
  rw [bt_cut _ p n i (by omega) (by omega) (by omega) (by omega), hp, bt_mid a b c i (by omega) (by omega)]

theorem put_byte (n : Int) (m i : Nat) (h : i < m) : bt (strOfNums (putS n m)) i = n / 2 ^ (8 * (m - 1 - i)) % 256 := by
  rw [bt_strOfNums _ (putS_range n m) i (by rw [putS_length]; exact h)]
  have : ∀ (m i : Nat) (hh : i < (putS n m).length), i < m → (putS n m)[i] = n / 2 ^ (8 * (m - 1 - i)) % 256 := by
    intro m
    induction m with
    | zero => intro i _ h; omega
    | succ m ih =>
      intro i hh h
      cases i with
      | zero => simp [putS]
      | succ i =>
        simp only [putS, List.getElem_cons_succ]
        rw [ih i _ (by omega)]
        rw [show m + 1 - 1 - (i + 1) = m - 1 - i by omega]
  exact this m i _ h

/-- A thing that stands at p is read as it was. -/
theorem read_eq (a c : ByteArray) (t : S52) (p : Int) (hp : p = a.size) (ht : t.f2.size ≤ 140737488355328) (hok : (formS t).2 = true) (hs : (a ++ ((formS t).1 ++ c)).size ≤ 281474976710656) (k : Nat) (hk : (a ++ ((formS t).1 ++ c)).size + 10 ≤ k) :
    quipulaw11_read.f k (a ++ ((formS t).1 ++ c)) p 0 t.f0 t.f1 t.f2 = some (true, a ++ ((formS t).1 ++ c), p + (formS t).1.size, 0) := by
  have s1 := size_app a ((formS t).1 ++ c)
  have s2 := size_app (formS t).1 c
  have num : ∀ (m : Nat), (formS t).1 = strOfNums (putS t.f1 m) → ((m : Int) = (formS t).1.size) ∧ ∀ i : Nat, i < m → bt (a ++ ((formS t).1 ++ c)) (p + i) = t.f1 / 2 ^ (8 * (m - 1 - i)) % 256 := fun m hm => by
    have hz : (formS t).1.size = m := by rw [hm, strOfNums_size, putS_length]
    refine ⟨by omega, fun i hi => ?_⟩
    rw [hp, bt_mid a _ c i (by omega) (by omega), hm, put_byte _ _ _ hi]
  have len0 : ∀ (m : Nat), (formS t).1 = strOfNums (putS t.f1 m) → (formS t).1.size = m := fun m hm => by rw [hm, strOfNums_size, putS_length]
  unfold quipulaw11_read.f
  by_cases c1 : t.f0 = 1
  · have hf : (formS t).1 = strOfNums (putS t.f1 1) := by unfold formS; rw [if_pos c1]
    have hz := len0 1 hf
    have hb := (num 1 hf).2 0 (by omega)
    rw [if_pos c1, get8 _ p 0 hs (by omega) (by omega), Option.bind_some]
    unfold getS
    rw [if_pos rfl, if_pos (by omega)]
    have : beNum (a ++ ((formS t).1 ++ c)) p 1 = t.f1 % 256 := by
      simp only [beNum]; simp at hb ⊢; exact hb
    rw [and255, this, hz]; simp
  rw [if_neg c1]
  by_cases c2 : t.f0 = 2
  · have hf : (formS t).1 = strOfNums (putS t.f1 2) := by unfold formS; rw [if_neg c1, if_pos c2]
    have hz := len0 2 hf
    have hb0 := (num 2 hf).2 0 (by omega)
    have hb1 := (num 2 hf).2 1 (by omega)
    rw [if_pos c2, get16 _ p 0 hs (by omega) (by omega), Option.bind_some]
    unfold getS
    rw [if_pos rfl, if_pos (by omega)]
    have : beNum (a ++ ((formS t).1 ++ c)) p 2 = t.f1 % 65536 := by
      simp only [beNum]; simp at hb0 hb1 ⊢; rw [hb0, hb1]; omega
    rw [and65535, this, hz]; simp
  rw [if_neg c2]
  by_cases c4 : t.f0 = 4
  · have hf : (formS t).1 = strOfNums (putS t.f1 4) := by unfold formS; rw [if_neg c1, if_neg c2, if_pos c4]
    have hz := len0 4 hf
    have hb0 := (num 4 hf).2 0 (by omega)
    have hb1 := (num 4 hf).2 1 (by omega)
    have hb2 := (num 4 hf).2 2 (by omega)
    have hb3 := (num 4 hf).2 3 (by omega)
    rw [if_pos c4, get32 _ p 0 hs (by omega) (by omega), Option.bind_some]
    unfold getS
    rw [if_pos rfl, if_pos (by omega)]
    have : beNum (a ++ ((formS t).1 ++ c)) p 4 = t.f1 % 4294967296 := by
      simp only [beNum]; simp at hb0 hb1 hb2 hb3 ⊢; rw [hb0, hb1, hb2, hb3]; omega
    rw [and32, this, hz]; simp
  rw [if_neg c4]
  have hf : formS t = ((putT t.f2).1, (putT t.f2).2 == 0) := by unfold formS; rw [if_neg c1, if_neg c2, if_neg c4]
  have hok2 : (putT t.f2).2 = 0 := by rw [hf] at hok; simpa using hok
  have hput : putT t.f2 = (strOfNums (putS t.f2.size 2) ++ t.f2, 0) ∧ (t.f2.size : Int) ≤ 1024 ∧ 0 ≤ runesS t.f2 := by
    unfold putT at hok2 ⊢
    by_cases d1 : (t.f2.size : Int) > 1024
    · rw [if_pos d1] at hok2; cases hok2
    rw [if_neg d1] at hok2 ⊢
    by_cases d2 : runesS t.f2 < 0
    · rw [if_pos d2] at hok2; cases hok2
    rw [if_neg d2]; exact ⟨rfl, by omega, by omega⟩
  obtain ⟨hput, hle, hru⟩ := hput
  have hf1 : (formS t).1 = strOfNums (putS t.f2.size 2) ++ t.f2 := by rw [hf, hput]
  have hz2 : (strOfNums (putS t.f2.size 2)).size = 2 := by rw [strOfNums_size, putS_length]
  have hz : ((formS t).1.size : Int) = 2 + t.f2.size := by rw [hf1, size_app]; omega
  have hb0 : bt (a ++ ((formS t).1 ++ c)) p = t.f2.size / 256 % 256 := by
    have := bt_mid a (formS t).1 c 0 (by omega) (by omega)
    rw [Int.add_zero] at this
    rw [hp, this, hf1, bt_app_left _ _ 0 (by omega) (by omega)]
    have := put_byte (t.f2.size) 2 0 (by omega)
    simpa using this
  have hb1 : bt (a ++ ((formS t).1 ++ c)) (p + 1) = t.f2.size % 256 := by
    rw [hp, bt_mid a (formS t).1 c 1 (by omega) (by omega), hf1, bt_app_left _ _ 1 (by omega) (by omega)]
    have := put_byte (t.f2.size) 2 1 (by omega)
    simpa using this
  have hbe : beNum (a ++ ((formS t).1 ++ c)) p 2 = t.f2.size := by
    simp only [beNum]; simp; rw [hb0, hb1]; omega
  have hmid : (a ++ ((formS t).1 ++ c)).extract (p + 2).toNat (p + 2 + t.f2.size).toNat = t.f2 := by
    have e : a ++ ((formS t).1 ++ c) = (a ++ strOfNums (putS t.f2.size 2)) ++ (t.f2 ++ c) := by
      rw [hf1]; simp [ByteArray.append_assoc]
    rw [e]
    refine cut_mid _ _ _ _ _ ?_ rfl
    rw [size_app]; omega
  have hg := getText (a ++ ((formS t).1 ++ c)) p 0 1024 hs (by omega) (by omega) (k - (a ++ ((formS t).1 ++ c)).size - 10)
  rw [show k - (a ++ ((formS t).1 ++ c)).size - 10 + (a ++ ((formS t).1 ++ c)).size + 10 = k by omega] at hg
  rw [hg, Option.bind_some]
  unfold textS
  rw [if_pos rfl, if_pos (by omega), hbe, if_neg (by omega), if_pos (by omega), hmid, if_pos hru]
  simp; omega
end Go.Proofs.Ytfhlnmgaammofaa.R1

/- Plain law: what Out tells. -/
import Derived.Test.YtfaknblpkegekaaQx7
import Derived.Test.YtfaknblpkegekaaNat4
namespace Go.Proofs.Ytfaknblpkegekaa.Q
open Go.RowKit Go.Proofs.YtfaknblpkegekaaW.PrintWords Go.Proofs.YtfaknblpkegekaaW.PrintLast Go.Proofs.YtfaknblpkegekaaW.PrintMore
set_option linter.unusedVariables false
theorem canon (xs : List Int) (h : Lim xs) (hp : xs ≠ [] → 18446744073709551616 ^ (xs.length - 1) ≤ val xs) : limbs (val xs) = xs := by
  by_cases c : xs = []
  · subst c; rfl
  · obtain ⟨m, y, rfl⟩ : ∃ m y, xs = m ++ [y] := ⟨xs.dropLast, xs.getLast c, (List.dropLast_concat_getLast _).symm⟩
    have hy := h y (by simp)
    have hm : Lim m := fun z hz => h z (List.mem_append_left _ hz)
    by_cases z : y = 0
    · subst z
      have h1 := hp c
      rw [val_snoc0] at h1
      have h2 := val_lt m hm
      simp at h1
      omega
    · exact limbs_val_snoc m y hm (by omega) hy.2
theorem or_low (c a r : Nat) (hc : c < 2 ^ r) (hr : r ≤ 48) (ha : a < 65536) (hb : a * 2 ^ r < 2 ^ 64) : Go.bits .or .u64 (c : Int) ((a * 2 ^ r : Nat) : Int) = ((c + a * 2 ^ r : Nat) : Int) := by
  have hc2 : c < 2 ^ 64 := Nat.lt_of_lt_of_le hc (Nat.pow_le_pow_right (by decide) (by omega))
  have hs : c + a * 2 ^ r < 2 ^ 64 := by
    have h1 : (a + 1) * 2 ^ r ≤ 65536 * 2 ^ r := Nat.mul_le_mul_right _ (by omega)
    have h2 : 65536 * 2 ^ r ≤ 65536 * 2 ^ 48 := Nat.mul_le_mul_left _ (Nat.pow_le_pow_right (by decide) hr)
    have h3 : 65536 * 2 ^ 48 = 2 ^ 64 := by decide
    rw [Nat.add_mul] at h1
    omega
  simp only [Go.bits]
  have hb64 : IntKind.u64.bits = 64 := rfl
  rw [BitVec.ofInt_natCast, BitVec.ofInt_natCast, BitVec.toNat_or, BitVec.toNat_ofNat, BitVec.toNat_ofNat, hb64, Nat.mod_eq_of_lt hc2, Nat.mod_eq_of_lt hb]
  have e : c ||| a * 2 ^ r = c + a * 2 ^ r := by
    have := Nat.shiftLeft_add_eq_or_of_lt hc a
    rw [Nat.shiftLeft_eq] at this
    rw [Nat.or_comm, ← this, Nat.add_comm]
  rw [e, IntKind.wrap_u64]
  have e2 : (2 : Nat) ^ 64 = 18446744073709551616 := by decide
  rw [e2] at hs
  generalize c + a * 2 ^ r = z at hs ⊢
  omega
theorem shl_put (a r : Nat) (ha : a < 65536) (hr : r ≤ 48) (hb : a * 2 ^ r < 2 ^ 64) : shl .u64 (IntKind.u64.wrap (a : Int)) (r : Int) = ((a * 2 ^ r : Nat) : Int) := by
  unfold shl
  rw [Int.toNat_natCast, Nat.min_eq_left (show r ≤ IntKind.u64.bits by show r ≤ 64; omega), IntKind.wrap_u64, IntKind.wrap_u64]
  have e1 : (a : Int) % 18446744073709551616 = a := by omega
  have e2 : (a : Int) * 2 ^ r = ((a * 2 ^ r : Nat) : Int) := by
    rw [Int.natCast_mul, Int.natCast_pow]; rfl
  have e3 : (2 : Nat) ^ 64 = 18446744073709551616 := by decide
  rw [e1, e2]
  rw [e3] at hb
  generalize a * 2 ^ r = z at hb ⊢
  omega
/-- One step: what stands at the limb, with the next digit laid above. -/
theorem put_eq (c a : Int) (r : Nat) (hr : r < 4) (hc : 0 ≤ c ∧ c < 65536 ^ r) (ha : 0 ≤ a ∧ a < 65536) :
    Go.bits .or .u64 c (shl .u64 (IntKind.u64.wrap a) (wrap64 (16 * (r : Int)))) = c + a * 65536 ^ r ∧ 0 ≤ c + a * 65536 ^ r ∧ c + a * 65536 ^ r < 65536 ^ (r + 1) := by
  obtain ⟨c, rfl⟩ : ∃ n : Nat, c = n := ⟨c.toNat, by omega⟩
  obtain ⟨a, rfl⟩ : ∃ n : Nat, a = n := ⟨a.toNat, by omega⟩
  have hw : wrap64 (16 * (r : Int)) = ((16 * r : Nat) : Int) := by
    rw [show ((16 * r : Nat) : Int) = 16 * (r : Int) by push_cast; rfl]; unfold wrap64; omega
  have hp : (2 : Nat) ^ (16 * r) = 65536 ^ r := by rw [Nat.pow_mul]
  have hcn : c < 65536 ^ r := by
    have h := hc.2
    rw [show (65536 : Int) ^ r = ((65536 ^ r : Nat) : Int) from (Int.natCast_pow 65536 r).symm] at h
    exact Int.ofNat_lt.1 h
  have han : a < 65536 := by omega
  have hlt : a * 65536 ^ r < 65536 ^ (r + 1) := by
    rw [Nat.pow_succ, Nat.mul_comm]
    exact (Nat.mul_lt_mul_left (Nat.pow_pos (by decide))).2 han
  have hle : (65536 : Nat) ^ (r + 1) ≤ 2 ^ 64 := by
    have h1 : (65536 : Nat) ^ (r + 1) ≤ 65536 ^ 4 := Nat.pow_le_pow_right (by decide) (by omega)
    have h2 : (65536 : Nat) ^ 4 = 2 ^ 64 := by decide
    omega
  have hs : c + a * 65536 ^ r < 65536 ^ (r + 1) := by
    have h1 : (a + 1) * 65536 ^ r ≤ 65536 * 65536 ^ r := Nat.mul_le_mul_right _ (by omega)
    rw [Nat.add_mul] at h1
    rw [Nat.pow_succ, Nat.mul_comm (65536 ^ r)]
    omega
  have e := or_low c a (16 * r) (by rw [hp]; exact hcn) (by omega) han (by rw [hp]; omega)
  have e0 := shl_put a (16 * r) han (by omega) (by rw [hp]; omega)
  rw [hw, e0, e, hp]
  have ec : ((c + a * 65536 ^ r : Nat) : Int) = (c : Int) + a * 65536 ^ r := by
    rw [Int.natCast_add, Int.natCast_mul, Int.natCast_pow]; rfl
  refine ⟨ec, by rw [← ec]; omega, ?_⟩
  rw [← ec, show (65536 : Int) ^ (r + 1) = ((65536 ^ (r + 1) : Nat) : Int) from (Int.natCast_pow 65536 (r + 1)).symm]
  exact Int.ofNat_lt.2 hs
theorem pow_four (q : Nat) : (65536 : Nat) ^ (4 * q) = 18446744073709551616 ^ q := by rw [Nat.pow_mul]
theorem w_succ (i : Nat) (h : i < 9223372036854775806) : wrap64 ((i : Int) + 1) = ((i + 1 : Nat) : Int) := by unfold wrap64; omega
theorem w_16 (r : Nat) (h : r < 4) : (0 ≤ wrap64 (16 * (r : Int))) = True := by
  have : 0 ≤ wrap64 (16 * (r : Int)) := by unfold wrap64; omega
  simp [this]
theorem w_q (i : Nat) (h : i < 9223372036854775806) : wrap64 (Int.tdiv (i : Int) 4) = ((i / 4 : Nat) : Int) := by
  rw [Int.tdiv_eq_ediv_of_nonneg (by omega)]; unfold wrap64; omega
theorem t_m (i : Nat) : Int.tmod (i : Int) 4 = ((i % 4 : Nat) : Int) := by rw [Int.tmod_eq_emod_of_nonneg (by omega)]; omega
/-- How the limbs stand where i digits are laid. -/
def OutI (x0 : List Int) (i : Nat) (x3 : List Int) : Prop := Lim x3 ∧ x3.length = (i + 3) / 4 ∧ val x3 = dval (x0.take i) ∧ (i % 4 ≠ 0 → x3.getD (i / 4) 0 < 65536 ^ (i % 4))
theorem OutI_next (x0 m : List Int) (i : Nat) (c : Int) (hx : Dig x0) (hm : Lim m) (hml : m.length = i / 4) (hc : 0 ≤ c ∧ c < 65536 ^ (i % 4)) (hv : val m + 18446744073709551616 ^ (i / 4) * c.toNat = dval (x0.take i)) :
    OutI x0 (i + 1) (m ++ [c + x0.getD i 0 * 65536 ^ (i % 4)]) := by
  have ha := hx.getD i
  have hr : i % 4 < 4 := Nat.mod_lt _ (by decide)
  obtain ⟨_, hv0, hv1⟩ := put_eq c (x0.getD i 0) (i % 4) hr hc ha
  have hB : c + x0.getD i 0 * 65536 ^ (i % 4) < 18446744073709551616 := by
    have h1 : (65536 : Int) ^ (i % 4 + 1) ≤ 18446744073709551616 := by
      generalize i % 4 = r at hr
      match r, hr with
      | 0, _ => decide
      | 1, _ => decide
      | 2, _ => decide
      | 3, _ => decide
    omega
  refine ⟨hm.app (Lim.one hv0 hB), by rw [List.length_append]; simp; omega, ?_, ?_⟩
  · rw [val_app, val_one, hml, dtake_getD, ← hv]
    have e1 : (c + x0.getD i 0 * 65536 ^ (i % 4)).toNat = c.toNat + (x0.getD i 0).toNat * 65536 ^ (i % 4) := by
      obtain ⟨n, hn⟩ : ∃ n : Nat, c = n := ⟨c.toNat, by omega⟩
      obtain ⟨a, hna⟩ : ∃ n : Nat, x0.getD i 0 = n := ⟨(x0.getD i 0).toNat, by omega⟩
      rw [hn, hna, show ((n : Int) + (a : Int) * 65536 ^ (i % 4)) = ((n + a * 65536 ^ (i % 4) : Nat) : Int) by rw [Int.natCast_add, Int.natCast_mul, Int.natCast_pow]; rfl]
      simp only [Int.toNat_natCast]
    have e2 : (65536 : Nat) ^ i = 18446744073709551616 ^ (i / 4) * 65536 ^ (i % 4) := by
      rw [← pow_four, ← Nat.pow_add]; congr 1; omega
    rw [e1, e2, Nat.mul_add, Nat.mul_comm (x0.getD i 0).toNat, ← Nat.mul_assoc]
    omega
  · intro hne
    have e1 : (i + 1) / 4 = i / 4 := by omega
    have e2 : (i + 1) % 4 = i % 4 + 1 := by omega
    rw [e1, e2, List.getD_eq_getElem?_getD, ← hml]
    simp
    exact hv1
theorem Out_loop (x0 : List Int) (hx : Dig x0) (hb : x0.length ≤ 8796093022208) (hcan : x0 ≠ [] → 65536 ^ (x0.length - 1) ≤ dval x0) (k : Nat) : ∀ (d i : Nat) (x3 : List Int), i + d = x0.length → OutI x0 i x3 →
    quipuref01_Out.l0 (k + d + 1) x0 x3 i = some (limbs (dval x0)) := by
  intro d
  induction d with
  | zero =>
    intro i x3 hi hI
    simp only [quipuref01_Out.l0]
    rw [if_neg (by omega)]
    obtain ⟨hL, hlen, hv, _⟩ := hI
    rw [List.take_of_length_le (by omega)] at hv
    congr 1
    rw [← hv]
    refine (canon x3 hL (fun hne => ?_)).symm
    have hx0 : x0 ≠ [] := by
      intro e
      subst e
      have : x3.length = 0 := by rw [hlen]; simp at hi; subst hi; rfl
      exact hne (List.eq_nil_of_length_eq_zero this)
    have h1 := hcan hx0
    have hpos : 0 < x0.length := List.length_pos_iff.2 hx0
    have h2 : (65536 : Nat) ^ (4 * (x3.length - 1)) ≤ 65536 ^ (x0.length - 1) := Nat.pow_le_pow_right (by decide) (by omega)
    rw [pow_four] at h2
    rw [hv]
    omega
  | succ d ih =>
    intro i x3 hi hI
    obtain ⟨K, hK⟩ : ∃ K, K = k + d + 1 := ⟨_, rfl⟩
    rw [show k + (d + 1) + 1 = K + 1 by omega]
    simp only [quipuref01_Out.l0]
    obtain ⟨hL, hlen, hv, hlast⟩ := hI
    have hr : i % 4 < 4 := Nat.mod_lt _ (by decide)
    have ha := hx.getD i
    have ea : rd x0 i = x0.getD i 0 := rfl
    have hi9 : i < 9223372036854775806 := by omega
    rw [if_pos (by omega), t_m i, w_q i hi9, w_succ i hi9, ea]
    have w3 := w_16 (i % 4) hr
    by_cases c0 : i % 4 = 0
    · rw [if_pos (by omega), if_pos (by omega), Option.bind_some]
      have hq : x3.length = i / 4 := by omega
      have hget : rd (x3 ++ [0]) ((i / 4 : Nat) : Int) = 0 := by
        rw [show rd (x3 ++ [0]) ((i / 4 : Nat) : Int) = (x3 ++ [0]).getD (i / 4) 0 from rfl, List.getD_eq_getElem?_getD, ← hq]; simp
      obtain ⟨p1, _, _⟩ := put_eq 0 (x0.getD i 0) (i % 4) hr ⟨Int.le_refl _, by rw [c0]; decide⟩ ha
      have hn := OutI_next x0 x3 i 0 hx hL hq ⟨Int.le_refl _, by rw [c0]; decide⟩ (by rw [hv]; simp)
      rw [if_pos (by omega), if_pos (by simp; omega), if_pos (by omega), if_pos (of_eq_true w3), hget, p1, Int.toNat_natCast]
      have hset : (x3 ++ ([0] : List Int)).set (i / 4) ((0 : Int) + x0.getD i 0 * 65536 ^ (i % 4)) = x3 ++ [(0 : Int) + x0.getD i 0 * 65536 ^ (i % 4)] := by rw [← hq]; simp
      rw [hset]
      rw [hK]
      exact ih (i + 1) _ (by omega) hn
    · rw [if_neg (by omega)]
      have hq : x3.length = i / 4 + 1 := by omega
      obtain ⟨m, c, rfl⟩ : ∃ m c, x3 = m ++ [c] := ⟨x3.dropLast, x3.getLast (by intro e; subst e; simp at hq), (List.dropLast_concat_getLast _).symm⟩
      have hml : m.length = i / 4 := by simp at hq; exact hq
      have hget : (m ++ [c]).getD (i / 4) 0 = c := by rw [List.getD_eq_getElem?_getD, ← hml]; simp
      have hget2 : rd (m ++ [c]) ((i / 4 : Nat) : Int) = c := hget
      have hc := hlast c0
      rw [hget] at hc
      have hc0 := (hL c (by simp)).1
      obtain ⟨p1, _, _⟩ := put_eq c (x0.getD i 0) (i % 4) hr ⟨hc0, hc⟩ ha
      have hn := OutI_next x0 m i c hx (fun z hz => hL z (List.mem_append_left _ hz)) hml ⟨hc0, hc⟩ (by rw [← hv, val_app, val_one, hml])
      rw [if_pos (by omega), if_pos (by omega), if_pos (by omega), if_pos (of_eq_true w3), hget2, p1, Int.toNat_natCast]
      have hset : (m ++ [c]).set (i / 4) (c + x0.getD i 0 * 65536 ^ (i % 4)) = m ++ [c + x0.getD i 0 * 65536 ^ (i % 4)] := by rw [← hml]; simp
      rw [hset]
      rw [hK]
      exact ih (i + 1) _ (by omega) hn
/-- What 'Out' answers. -/
theorem Out_eq (x : List Int) (hx : Dig x) (hb : x.length ≤ 8796093022208) (k : Nat) : quipuref01_Out.f (k + x.length + 1) x = some (limbs (dval x)) := by
  unfold quipuref01_Out.f
  rw [rtrim_eq x hx (by omega) k, Option.bind_some]
  have hl := digs_le x hx
  have hcan : digs (dval x) ≠ [] → 65536 ^ ((digs (dval x)).length - 1) ≤ dval (digs (dval x)) := fun h => by
    rw [digs_dval]
    exact digs_pow _ (by intro e; rw [e] at h; exact h rfl)
  have h := Out_loop (digs (dval x)) (digs_lim _) (by omega) hcan (k + x.length - (digs (dval x)).length) (digs (dval x)).length 0 [] (by omega) ⟨Lim.nil, rfl, rfl, fun h => absurd rfl h⟩
  rw [show k + x.length - (digs (dval x)).length + (digs (dval x)).length + 1 = k + x.length + 1 by omega, digs_dval] at h
  exact h
end Go.Proofs.Ytfaknblpkegekaa.Q

/- Plain law: NatRing answers true. -/
import Derived.Test.YtfaknblpkegekaaQx11
import Derived.Test.YtfaknblpkegekaaNat18
import Derived.Test.YtfaknblpkegekaaAwake
namespace Go.Proofs.Ytfaknblpkegekaa.Q
open Go.RowKit Go.Proofs.YtfaknblpkegekaaW.PrintWords Go.Proofs.YtfaknblpkegekaaW.PrintLast Go.Proofs.YtfaknblpkegekaaW.PrintMore
set_option linter.unusedVariables false
theorem mul_under (a b : List Int) (ha : Lim a) (hb : Lim b) : (limbs (val a * val b)).length ≤ a.length + b.length := by
  refine limbs_lt _ _ ?_
  rw [Nat.pow_add]
  exact Nat.mul_lt_mul'' (val_lt a ha) (val_lt b hb)
theorem add_under (a b : List Int) (ha : Lim a) (hb : Lim b) (L : Nat) (la : a.length ≤ L) (lb : b.length ≤ L) : (limbs (val a + val b)).length ≤ L + 1 := by
  refine limbs_lt _ _ ?_
  have h0 := val_lt a ha
  have h1 := val_lt b hb
  have p0 := pow_le_of la
  have p1 := pow_le_of lb
  rw [Nat.pow_succ]
  generalize (18446744073709551616 : Nat) ^ L = P at *
  omega
theorem add_fits (a b : List Int) (ha : Lim a) (hb : Lim b) (la : a.length ≤ 8000000) (lb : b.length ≤ 8000000) : nat_Add.f a b = some (limbs (val a + val b)) := by
  unfold nat_Add.f
  rw [wfl_in ha (by omega), wfl_in hb (by omega)]; rfl
theorem sub_fits (a b : List Int) (ha : Lim a) (hb : Lim b) (la : a.length ≤ 8000000) (lb : b.length ≤ 8000000) (h : val b ≤ val a) : nat_Sub.f a b = some (limbs (val a - val b), 0) := by
  unfold nat_Sub.f
  rw [wfl_in ha (by omega), wfl_in hb (by omega)]
  simp only [Bool.and_self, if_true]
  rw [if_neg (by omega)]
theorem mul_fits (a b : List Int) (ha : Lim a) (hb : Lim b) (la : a.length ≤ 8000000) (lb : b.length ≤ 8000000) (K : Nat) (hK : 1000000000000000 ≤ K) : nat_Mul.f K a b = some (limbs (val a * val b)) := by
  have m0 : a.length * (b.length + 2) ≤ 8000000 * 8000002 := Nat.mul_le_mul la (by omega)
  exact Mul_ge a b ha hb (by omega) K (by omega)
theorem same_fits (n : Nat) (h : (limbs n).length ≤ 8000000) (K : Nat) (hK : 1000000000000000 ≤ K) : quipuref01_Same.f K (limbs n) (limbs n) = some true := by
  rw [Same_all (limbs n) (limbs n) (by omega) K (by omega), limbs_dec]
  simp
theorem div_fits (a b : List Int) (ha : Lim a) (hb : Lim b) (la : a.length ≤ 8000000) (lb : b.length ≤ 8000000) (h : val b ≠ 0) : nat_DivMod.f a b = some (limbs (val a / val b), limbs (val a % val b), 0) := by
  unfold nat_DivMod.f
  rw [wfs_in ha (by omega), wfs_in hb (by omega)]
  simp only [Bool.and_self, if_true]
  rw [if_neg h]
theorem ring_j1 (K : Nat) (hK : 1000000000000000 ≤ K) (a b : List Int) (ha : Lim a) (hb : Lim b) (la : a.length ≤ 1048576) (lb : b.length ≤ 1048576) : quipulaw01_NatRing.j1 (K + 1) a b false = some true := by
  have hc := cmp_ge b [] hb Lim.nil (by omega) (by simp) K (by simp; omega)
  have hz : val ([] : List Int) = 0 := rfl
  rw [hz] at hc
  simp only [quipulaw01_NatRing.j1]
  rw [if_neg (by decide), hc, Option.bind_some]
  by_cases h0 : val b = 0
  · rw [if_pos (by unfold cmpN; rw [h0]; rfl)]
  · have hc1 : cmpN (val b) 0 = 1 := by unfold cmpN; rw [if_neg (by omega), if_pos (by omega)]
    have hq : (limbs (val a / val b)).length ≤ a.length := limbs_lt _ _ (Nat.lt_of_le_of_lt (Nat.div_le_self _ _) (val_lt a ha))
    have hr : (limbs (val a % val b)).length ≤ a.length := limbs_lt _ _ (Nat.lt_of_le_of_lt (Nat.mod_le _ _) (val_lt a ha))
    have hmu := mul_under (limbs (val a / val b)) b (limbs_lim _) hb
    have hlt := Nat.mod_lt (val a) (show 0 < val b by omega)
    have hcr := cmp_ge (limbs (val a % val b)) b (limbs_lim _) hb (by clear hmu hq; omega) (by omega) K (by clear hmu hq; omega)
    rw [limbs_val] at hcr hmu
    have hcl : cmpN (val a % val b) (val b) = -1 := by unfold cmpN; rw [if_pos hlt]
    have hm := mul_fits (limbs (val a / val b)) b (limbs_lim _) hb (by clear hmu hr hcr; omega) (by omega) K hK
    rw [limbs_val] at hm
    have hqn : (limbs (val a / val b * val b)).length ≤ 8000000 := by clear hr hcr hm; omega
    have had := add_fits (limbs (val a / val b * val b)) (limbs (val a % val b)) (limbs_lim _) (limbs_lim _) hqn (by clear hmu hq hqn hcr hm; omega)
    rw [limbs_val, limbs_val, Nat.mul_comm (val a / val b) (val b), Nat.div_add_mod] at had
    rw [Nat.mul_comm (val a / val b) (val b)] at hm
    have hn := Norm_ge a ha (by omega) K (by omega)
    have hs := same_fits (val a) (by have := limbs_le a ha; clear hmu hq hqn hcr hm had hr; omega) K hK
    rw [hc1, if_neg (by decide), div_fits a b ha hb (by omega) (by omega) h0, Option.bind_some]
    simp only
    rw [if_pos trivial, hcr, Option.bind_some, hcl, if_pos (by decide), hm, Option.bind_some, had, Option.bind_some, hn, Option.bind_some, hs]
    rfl
theorem ring_j0 (K : Nat) (hK : 1000000000000000 ≤ K) (a b c : List Int) (ha : Lim a) (hb : Lim b) (hc : Lim c) (la : a.length ≤ 1048576) (lb : b.length ≤ 1048576) (lc : c.length ≤ 1048576) :
    quipulaw01_NatRing.j0 (K + 1 + 1) a b c (limbs (val a * val b)) (limbs (val b + val c)) false = some true := by
  have l1 := add_under b c hb hc 1048576 lb lc
  have l2 := mul_under a b ha hb
  have l3 := mul_under a c ha hc
  have m1 := mul_fits a (limbs (val b + val c)) ha (limbs_lim _) (by omega) (by clear l2 l3; omega) (K + 1) (by omega)
  have l4 := mul_under a (limbs (val b + val c)) ha (limbs_lim _)
  rw [limbs_val] at m1 l4
  have m2 := mul_fits a c ha hc (by omega) (by omega) (K + 1) (by omega)
  have a1 := add_fits (limbs (val a * val b)) (limbs (val a * val c)) (limbs_lim _) (limbs_lim _) (by clear l1 l3 l4; omega) (by clear l1 l2 l4; omega)
  rw [limbs_val, limbs_val, ← Nat.mul_add] at a1
  have s1 := same_fits (val a * (val b + val c)) (by clear l2 l3; omega) (K + 1) (by omega)
  have u1 := sub_fits (limbs (val b + val c)) c (limbs_lim _) hc (by clear l2 l3 l4; omega) (by omega) (by rw [limbs_val]; omega)
  rw [limbs_val, Nat.add_sub_cancel] at u1
  have n1 := Norm_ge b hb (by omega) (K + 1) (by omega)
  have s2 := same_fits (val b) (by have := limbs_le b hb; clear l1 l2 l3 l4; omega) (K + 1) (by omega)
  simp only [quipulaw01_NatRing.j0]
  rw [if_neg (by decide), m1, Option.bind_some, m2, Option.bind_some, a1, Option.bind_some, s1, Option.bind_some, if_pos rfl, u1, Option.bind_some]
  simp only
  rw [if_pos trivial, n1, Option.bind_some, s2, Option.bind_some]
  exact ring_j1 K hK a b ha hb la lb
theorem NatRing_true (a b c : List Int) (ha : Lim a) (hb : Lim b) (hc : Lim c) (la : a.length ≤ 1048576) (lb : b.length ≤ 1048576) (lc : c.length ≤ 1048576) : ∃ K, quipulaw01_NatRing.f K a b c = some true := by
  obtain ⟨K, hK⟩ : ∃ K : Nat, K = 1000000000000000 := ⟨_, rfl⟩
  refine ⟨K + 1 + 1, ?_⟩
  have hj := ring_j0 K (by omega) a b c ha hb hc la lb lc
  have k2 : 1000000000000000 ≤ K + 1 + 1 := by omega
  have lbc := add_under b c hb hc 1048576 lb lc
  have lab := add_under a b ha hb 1048576 la lb
  have lmab := mul_under a b ha hb
  have lmbc := mul_under b c hb hc
  have m1 := mul_fits a b ha hb (by omega) (by omega) (K + 1 + 1) k2
  have m2 := mul_fits b a hb ha (by omega) (by omega) (K + 1 + 1) k2
  rw [Nat.mul_comm (val b) (val a)] at m2
  have a1 := add_fits b c hb hc (by omega) (by omega)
  have a2 := add_fits c b hc hb (by omega) (by omega)
  rw [Nat.add_comm (val c) (val b)] at a2
  have s1 := same_fits (val a * val b) (by clear lbc lab lmbc; omega) (K + 1 + 1) k2
  have s2 := same_fits (val b + val c) (by clear lmab lab lmbc; omega) (K + 1 + 1) k2
  have a3 := add_fits a (limbs (val b + val c)) ha (limbs_lim _) (by omega) (by clear lmab lab lmbc; omega)
  have labc := add_under a (limbs (val b + val c)) ha (limbs_lim _) 1048577 (by omega) (by clear lmab lab lmbc; omega)
  rw [limbs_val] at a3 labc
  have a4 := add_fits a b ha hb (by omega) (by omega)
  have a5 := add_fits (limbs (val a + val b)) c (limbs_lim _) hc (by clear lmab lbc lmbc labc; omega) (by omega)
  rw [limbs_val, Nat.add_assoc] at a5
  have s3 := same_fits (val a + (val b + val c)) (by clear lmab lbc lmbc lab; omega) (K + 1 + 1) k2
  have m3 := mul_fits b c hb hc (by omega) (by omega) (K + 1 + 1) k2
  have m4 := mul_fits a (limbs (val b * val c)) ha (limbs_lim _) (by omega) (by clear lmab lbc labc lab; omega) (K + 1 + 1) k2
  have lmabc := mul_under a (limbs (val b * val c)) ha (limbs_lim _)
  rw [limbs_val] at m4 lmabc
  have m5 := mul_fits (limbs (val a * val b)) c (limbs_lim _) hc (by clear lmabc lbc labc lab lmbc; omega) (by omega) (K + 1 + 1) k2
  rw [limbs_val, Nat.mul_assoc] at m5
  have s4 := same_fits (val a * (val b * val c)) (by clear lmab lbc labc lab; omega) (K + 1 + 1) k2
  unfold quipulaw01_NatRing.f
  rw [awake_ge (K + 1 + 1) (by clear lmab lbc labc lab lmbc lmabc; omega), Option.bind_some, if_pos rfl, m1, Option.bind_some, a1, Option.bind_some, m2, Option.bind_some, s1, Option.bind_some, if_pos rfl, a2, Option.bind_some, s2, Option.bind_some, if_pos rfl, a3, Option.bind_some, a4, Option.bind_some, a5, Option.bind_some, s3, Option.bind_some, if_pos rfl, m3, Option.bind_some, m4, Option.bind_some, m5, Option.bind_some, s4, Option.bind_some]
  exact hj
end Go.Proofs.Ytfaknblpkegekaa.Q

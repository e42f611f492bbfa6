import Derived.Test.YtfaknblpkegekaaProg
import Derived.Maps.AppendAt
import Derived.Test.YtfaknblpkegekaaC2
section
set_option linter.unusedVariables false
set_option linter.unusedSimpArgs false
namespace Go.Proofs.Ytfaknblpkegekaa.Q
theorem next_one (n : Nat) : Builtin.nextslicecap (n + 1) n ≤ n + n / 4 + 512 := by
  unfold Builtin.nextslicecap
  split
  · omega
  · split
    · omega
    · have h : Builtin.growBy (n + 1) 4 n = n + (n + 768) / 4 := by
        simp only [Builtin.growBy]
        rw [if_neg (by omega), if_pos (by omega)]
      rw [h]; omega
theorem next_fits (n bytes : Nat) (hb : n * bytes ≤ 211106232532992) (h1 : bytes ≤ 1048576) : Builtin.nextslicecap (n + 1) n * bytes ≤ 281474976710656 := by
  have h := Nat.mul_le_mul_right bytes (next_one n)
  have h2 : n / 4 * bytes * 4 ≤ n * bytes := by
    have := Nat.mul_le_mul_right bytes (Nat.div_mul_le_self n 4)
    rw [Nat.mul_right_comm] at this
    exact this
  rw [Nat.add_mul, Nat.add_mul] at h
  generalize n / 4 * bytes = q at *
  generalize n * bytes = p at *
  omega
section
variable {P : Program} {ops : Array Oper} {rest : List Oper} {o : Oper} {a : Act} {Q : Exit → Act → World → Prop}
open Go.RowKit Go.Proofs.YtfaknblpkegekaaW.PrintWords Go.Proofs.YtfaknblpkegekaaW.PrintLast Go.Proofs.YtfaknblpkegekaaW.PrintMore
theorem R_append_big {kd : IntKind} {w0 W : World} (base : Nat) (hgd : o.guard = none) (s x : Operand) (t e : TypeId) (z : Value) (bytes : Nat)
    (ho : o.op = .call { callee := .builtin .append, args := #[s, x], argTypes := #[t, t] })
    (ht : P.underlying t = some (.slice e)) (hinfo : (P.info? e).map (fun i => (i.zero, i.size, i.bytes)) = some (some z, 1, bytes)) (hz : z.cells.size = 1) (hb0 : 0 < bytes) (hb1 : bytes ≤ 1048576)
    (v : Value) (xs : List Int) (p : Int) (ok : Nat → Prop) (hs : a.eval s = v) (hx : a.eval x = .slice (some ⟨W.heap.size, 0, none⟩) 1 1) (hfresh : ∀ k, W.heap.size ≤ k → ok k)
    (HO : Kd.R (Kd.int kd) e W base ok v xs) (HB : Below base w0 W) (hbase : base ≤ W.heap.size) (hl : xs.length * bytes ≤ 211106232532992)
    (h : ∀ v1 w1, Kd.R (Kd.int kd) e w1 base ok v1 (xs ++ [p]) → Below base w0 w1 → W.grownBy w1 v.ownBlock → (v1.ownBlock = v.ownBlock ∨ ∃ b, v1.ownBlock = some b ∧ W.heap.size ≤ b) → wpList P ops Q rest (a.put o.dst v1) w1) :
    wpList P ops Q (o :: rest) a (W.alloc (.cells #[.int kd p] e)) := by
  obtain ⟨h0, inner, hown, hr⟩ := HO
  obtain ⟨i, hi, hzz⟩ := Option.map_eq_some_iff.1 hinfo
  simp only [Prod.mk.injEq] at hzz
  obtain ⟨hz0, hz1, hz2⟩ := hzz
  have hlb : xs.length ≤ xs.length * bytes := Nat.le_mul_of_pos_right _ hb0
  have hyo : ∀ u ∈ [Value.int kd p], u.oneCell' = true := by
    intro u hu
    rw [List.mem_singleton.1 hu]
    rfl
  have fin : ∀ v1 w1, w1.ownsRow base e 1 v1 (xs.length + 1) (inner ++ [.int kd p]) → (W.alloc (.cells #[.int kd p] e)).grownBy w1 v.ownBlock → (v1.ownBlock = v.ownBlock ∨ v1.ownBlock = some (W.heap.size + 1)) → wpList P ops Q rest (a.put o.dst v1) w1 := by
    intro v1 w1 h1 hg hat
    have hg1 : W.grownBy w1 v.ownBlock := World.grownBy.trans (World.grownBy_alloc W _ _) hg
    have hat1 : v1.ownBlock = v.ownBlock ∨ ∃ b, v1.ownBlock = some b ∧ W.heap.size ≤ b := by
      rcases hat with hat | hat
      · exact .inl hat
      · exact .inr ⟨_, hat, by omega⟩
    exact h v1 w1 (Kd.R_appended (d := Kd.int kd) (okp := fun _ => False) (cs := [.int kd p]) h0 hr rfl (fun _ hk => hk.elim) hfresh h1 hg1 hat1) ((HB.alloc hbase _).grown hg (by simp; omega) (own_base hown)) hg1 hat1
  rcases Nat.lt_or_ge xs.length 1048576 with hsmall | hbig
  · have hm : (xs.length + 1) * bytes ≤ 140737488355328 := by
      have h1 : (xs.length + 1) * bytes ≤ 1048576 * bytes := Nat.mul_le_mul_right _ (by omega)
      have h2 : 1048576 * bytes ≤ 1048576 * 1048576 := Nat.mul_le_mul_left _ hb1
      omega
    refine wpList_append_own_at (W.alloc (.cells #[.int kd p] e)) hgd s x t ho base e i z 1 bytes ht hi hz0 hz1 hz2 hz (by omega) v xs.length inner hs (hown.alloc _) ⟨W.heap.size, 0, none⟩ 1 1 [.int kd p] hx rfl
      (by simpa using World.news_of_block (cs := #[.int kd p]) (t := e) (fr := (0, 0)) (heap_alloc_new W (.cells #[.int kd p] e))) hyo (by simp only [maxLen]; omega) hm (by simp; omega) ?_
    intro v1 w1 h1 hg _ hat
    refine fin v1 w1 h1 hg ?_
    rcases hat with hat | hat
    · exact .inl hat
    · exact .inr (by rw [hat]; simp)
  · obtain ⟨W1, hW1⟩ : ∃ W1, W1 = W.alloc (.cells #[.int kd p] e) := ⟨_, rfl⟩
    have hown1 : W1.ownsRow base e 1 v xs.length inner := hW1 ▸ hown.alloc _
    have hnews : ∀ j u, [Value.int kd p][j]? = some u → W1.cell? ((⟨W.heap.size, 0, none⟩ : Addr).add j) = some u := by
      rw [hW1]
      simpa using World.news_of_block (cs := #[.int kd p]) (t := e) (fr := (0, 0)) (heap_alloc_new W (.cells #[.int kd p] e))
    have hsz1 : W1.heap.size = W.heap.size + 1 := by rw [hW1]; simp
    rw [← hW1] at fin ⊢
    clear hW1
    have key : ∃ v1 w1, (Builtin.append_ #[t, t] o.type #[v, .slice (some ⟨W.heap.size, 0, none⟩) 1 1]).run P W1 = .ok v1 w1 ∧ w1.ownsRow base e 1 v1 (xs.length + 1) (inner ++ [.int kd p]) ∧ W1.grownBy w1 v.ownBlock ∧ (v1.ownBlock = v.ownBlock ∨ v1.ownBlock = some (W.heap.size + 1)) := by
      have hil := hown1.1
      rcases hown1.2 with ⟨rfl, h2⟩ | ⟨g, cap, cur, rfl, hbg, hg, hnc, hcm, hcs, htake⟩
      · omega
      · by_cases hroom : xs.length + 1 ≤ cap
        · have hr := run_append_room (P := P) W1 t o.type e i ht hi g xs.length cap cur hg ⟨W.heap.size, 0, none⟩ 1 1 [.int kd p] (by rw [hz1]; rfl) hnews hyo hroom (by rw [hz1, hcs]; simp; omega)
          refine ⟨_, _, hr, ⟨by simp [hil], .inr ⟨g, cap, _, rfl, hbg, setRow_heap W1 g cur _ e _ hg, hroom, hcm, ?_, ?_⟩⟩, ⟨rfl, rfl, rfl, by simp, fun k _ hk => setRow_other W1 g k _ (fun he => hk (by simp [Value.ownBlock, he]))⟩, .inl rfl⟩
          · simp only [hz1, List.size_toArray, List.length_append, List.length_take, List.length_drop, Array.length_toList, List.length_singleton]
            omega
          · rw [hz1, htake, List.append_assoc, ← List.append_assoc inner]
            exact List.take_left' (by simp [hil])
        · have hc : cap = xs.length := by omega
          subst hc
          have hr := run_append_grow (P := P) W1 t o.type e i z ht hi hz0 ⟨g, 0, none⟩ xs.length xs.length inner (by rw [hz1]; exact hown1.1) (hown1.cells (g := g) rfl) ⟨W.heap.size, 0, none⟩ 1 1 [.int kd p] (by rw [hz1]; rfl) hnews (by omega) (by omega) (by rw [hz2]; exact next_fits _ _ hl hb1)
          have hge := grownCap_ge W1 (xs.length + 1) xs.length e
          have hcm2 := grownCap_le_maxLen W1 (xs.length + 1) xs.length e (by simp only [maxLen]; omega)
          refine ⟨_, _, hr, ⟨by simp [hil], .inr ⟨W1.heap.size, _, _, rfl, by omega, heap_alloc_new W1.drew _, hge, hcm2, ?_, ?_⟩⟩, ⟨rfl, rfl, rfl, by simp, fun k hk _ => heap_alloc_old W1.drew _ hk⟩, .inr (by rw [← hsz1]; rfl)⟩
          · simp only [Array.size_append, List.size_toArray, size_zeroCells, hz, hil, List.length_singleton]
            omega
          · simp only [Array.toList_append]
            exact List.take_left' (by simp [hil])
    obtain ⟨v1, w1, hrun, h2, h3, h4⟩ := key
    refine wpList_plain hgd fun K hK => ?_
    unfold Oper.wp execOp
    simp only [ho, resolve, invoke, builtin, Sem.run_bind, Sem.run_pure, Result.andThen_ok, List.map_toArray, List.map_cons, List.map_nil, hs, hx, hrun]
    exact hK _ _ (fin v1 w1 h2 h3 h4)
end
end Go.Proofs.Ytfaknblpkegekaa.Q
end

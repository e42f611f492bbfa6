import Derived.Test.YtacnjemndfmbhaaC6
namespace Go.Proofs.Ytacnjemndfmbhaa
open Go.RowKit
theorem aP22 {p : Prop} (h : p := by
    obtain rfl := Option.some.inj H
    go_enter Try.func89, Try.ntmps89
    go_wp2
    go_ret
    exact ⟨by first | rfl | (simp; done) | (simp [*]; done), by repeat (first | exact Drawn0.refl _ | apply Drawn0.step)⟩) : p := h
theorem aP23 {p : Prop} (h : p := by
    clear c44
    obtain rfl := Option.some.inj H
    go_wp2
    repeat (go_quiet (fail); try go_wp2)
    go_ret
    exact ⟨by first | rfl | (simp [errW_none, errW_some] <;> rfl) | (simp [*, errW_none, errW_some] <;> rfl), by repeat (first | (with_reducible first | exact HB.out | apply below_alloc | apply pw_below_drewN | apply below_drew1) | exact HB.out)⟩) : p := h
theorem aP24 {p : Prop} (h : p := by
    obtain rfl := Option.some.inj H
    go_wp2
    repeat (go_quiet (fail); try go_wp2)
    go_ret
    exact ⟨by first | rfl | (simp [errW_none, errW_some] <;> rfl) | (simp [*, errW_none, errW_some] <;> rfl), by repeat (first | (with_reducible first | exact HB.out | apply below_alloc | apply pw_below_drewN | apply below_drew1) | exact HB.out)⟩) : p := h
theorem aP91 {p : Prop} (h : p := by first | rfl | (simp [errW_none, errW_some] <;> rfl) | (simp [*, errW_none, errW_some] <;> rfl)) : p := h
theorem aP25 {p : Prop} (h : p := by
    go_roundg k1
    case measure => have := HK1.out; omega
    case rel => exact ⟨(wrap64 (x3_1 + (((rd_T53 l0 x9_1).f2).size : Int))), (wrap64 (x9_1 + 1)), (by first | rfl | (simp; done) | (simp [*]; done)), (by first | rfl | (simp; done) | (simp [*]; done)), H', ⟨by have := HK1.out; omega⟩, ⟨by repeat (first | (with_reducible first | exact HB.out | apply below_alloc | apply pw_below_drewN | apply below_drew1 | refine below_set ?_ GE117.out) | exact HB.out)⟩⟩) : p := h
theorem aP90 {p : Prop} (h : p := by repeat (first | (with_reducible first | exact HB.out | apply below_alloc | apply pw_below_drewN | apply below_drew1 | refine below_set ?_ GE117.out) | exact HB.out)) : p := h
theorem aP89 {p : Prop} (h : p := by (with_reducible repeat (first | refine blk_drewN ?_ _ | refine blk_drew ?_ | refine blk_alloc ?_ _)); refine blk_put (cs := #[.int .i64 ((rd_T53 l0 x9_1).f0), .int .i64 ((rd_T53 l0 x9_1).f1), .string (⟨#[]⟩ : ByteArray)]) ?_ 2 _ rfl; (with_reducible repeat (first | refine blk_drewN ?_ _ | refine blk_drew ?_ | refine blk_alloc ?_ _)); refine blk_put (cs := #[.int .i64 ((rd_T53 l0 x9_1).f0), .int .i64 0, .string (⟨#[]⟩ : ByteArray)]) ?_ 1 _ rfl; (with_reducible repeat (first | refine blk_drewN ?_ _ | refine blk_drew ?_ | refine blk_alloc ?_ _)); refine blk_put (cs := #[.int .i64 0, .int .i64 0, .string (⟨#[]⟩ : ByteArray)]) ?_ 0 _ rfl; (with_reducible repeat (first | refine blk_drewN ?_ _ | refine blk_drew ?_ | refine blk_alloc ?_ _)); exact BK117.out) : p := h
theorem aP26 {p : Prop} (h : p := by
    go_ret
    exact ⟨by first | rfl | (simp [errW_none, errW_some] <;> rfl) | (simp only [← hji6]; first | rfl | (simp [errW_none, errW_some] <;> rfl)) | (simp [*, errW_none, errW_some] <;> rfl), by repeat (first | (with_reducible first | exact HB.out | apply below_alloc | apply pw_below_drewN | apply below_drew1 | refine below_set ?_ GE117.out) | exact HB.out)⟩) : p := h
theorem aP88 {p : Prop} (h : p := by first | (rw [add_block]; exact hn118_2) | (show (Addr.add _ _).block ≠ _; rw [add_block]; exact hn118_2) | exact hn118_2) : p := h
theorem aP87 {p : Prop} (h : p := by first | (rw [add_block]; exact hn118_1) | (show (Addr.add _ _).block ≠ _; rw [add_block]; exact hn118_1) | exact hn118_1) : p := h
theorem aP86 {p : Prop} (h : p := by first | (rw [add_block]; exact hn118_0) | (show (Addr.add _ _).block ≠ _; rw [add_block]; exact hn118_0) | exact hn118_0) : p := h
theorem aP85 {p : Prop} (h : p := by have := World.block_lt_of_cell? _ _ hx118_0; first | rwa [add_block] at this | exact this) : p := h
theorem aP27 {p : Prop} (h : p := by
    go_wp2
    go_ret
    exact ⟨by first | rfl | (simp [errW_none, errW_some] <;> rfl) | (simp [*, errW_none, errW_some] <;> rfl), by repeat (first | (with_reducible first | exact HB.out | apply below_alloc | apply pw_below_drewN | apply below_drew1 | refine below_set ?_ GE114.out) | exact HB.out)⟩) : p := h
theorem aP84 {p : Prop} (h : p := by repeat (first | (with_reducible first | exact HB.out | apply below_alloc | apply pw_below_drewN | apply below_drew1 | refine below_set ?_ GE114.out) | exact HB.out)) : p := h
theorem aP83 {p : Prop} (h : p := by (with_reducible repeat (first | refine blk_drewN ?_ _ | refine blk_drew ?_ | refine blk_alloc ?_ _)); exact BK114.out) : p := h
theorem aP82 {p : Prop} (h : p := by first | omega | exact Nat.le_refl _) : p := h
theorem aP28 {p : Prop} (h : p := by
    go_ret
    exact ⟨by first | rfl | (simp [errW_none, errW_some] <;> rfl) | (simp [*, errW_none, errW_some] <;> rfl), by repeat (first | (with_reducible first | exact HB.out | apply below_alloc | apply pw_below_drewN | apply below_drew1 | refine below_set ?_ GE114.out) | exact HB.out)⟩) : p := h
theorem aP81 {p : Prop} (h : p := by rw [hg]; exact (below_size (by repeat (first | (with_reducible first | exact HB.out | apply below_alloc | apply pw_below_drewN | apply below_drew1) | exact HB.out)))) : p := h
theorem aP80 {p : Prop} (h : p := by repeat (first | (with_reducible first | exact HB.out | apply below_alloc | apply pw_below_drewN | apply below_drew1) | exact HB.out)) : p := h
end Go.Proofs.Ytacnjemndfmbhaa
section
namespace Go.Proofs.Ytacnjemndfmbhaa.Q
open Go.RowKit Go.Proofs.YtacnjemndfmbhaaW.PrintWords Go.Proofs.YtacnjemndfmbhaaW.PrintLast Go.Proofs.YtacnjemndfmbhaaW.PrintMore
attribute [local go_sem] max2_int min2_int max_two min_two max_three min_three max_four min_four   -- for this text's walks alone
set_option linter.unusedVariables false
set_option linter.unusedSimpArgs false
def quipuref11_Runes.l0 : Nat → ByteArray → Int → Int → Option (Int)
 | 0, _, _, _ => none
 | k + 1, x0, x3, x4 => if x4 < (x0.size : Int) then ((quipuref11_Rune.f k x0 x4).bind fun t112 => (if t112 = 0 then (some (-1)) else (quipuref11_Runes.l0 k x0 (wrap64 (x3 + 1)) (wrap64 (x4 + t112))))) else (some x3)
def quipuref11_Runes.f (k : Nat) (a0 : ByteArray) : Option (Int) := quipuref11_Runes.l0 k a0 0 0
set_option maxHeartbeats 8000000 in
set_option maxRecDepth 100000 in
theorem quipuref11_Runes.calls (k : Nat) (a0 : ByteArray) (r : Int) (w : World) (h : quipuref11_Runes.f k a0 = some r) :
  Calls Try.prog 57 #[.string a0] w fun e w' => e = .returned (.int .i64 r) ∧ Drawn0 w w' := by
 have H : (quipuref11_Runes.l0 k a0 0 0) = some r := h
 clear h
 have H' := aMk H
 clear H
 go_enter Try.func57, Try.ntmps57
 go_wp2
 go_loopg [3, 4] k (fun kq v3 v4 w' => ∃ (x3_1 : Int) (x4_1 : Int), v3 = .int .i64 x3_1 ∧ v4 = .int .i64 x4_1 ∧ Aside0 (quipuref11_Runes.l0 kq a0 x3_1 x4_1 = some r) ∧ Aside0 (kq ≤ k) ∧ Drawn0 w w')
 case atStart => exact ⟨(0), (0), (aP77), (aP77), H', ⟨Nat.le_refl _⟩, aP78⟩
 case round =>
  clear H'
  obtain ⟨x3_1, x4_1, rfl, rfl, HA, HK1, ⟨m1, rfl⟩⟩ := hrel
  cases gk with
  | zero => exact absurd HA.out (by simp [quipuref11_Runes.l0])
  | succ k1 =>
   have H := HA.out
   clear HA
   simp only [quipuref11_Runes.l0] at H
   by_cases c2 : x4_1 < (a0.size : Int)
   ·rw [if_pos c2] at H
    have c2b0 : decide (x4_1 < (a0.size : Int)) = true := dTr c2
    clear c2
    replace H := Option.bind_eq_some_iff.mp H
    obtain ⟨t112, A30, H⟩ := H
    replace H : (if t112 = 0 then (some (-1)) else (quipuref11_Runes.l0 k1 a0 (wrap64 (x3_1 + 1)) (wrap64 (x4_1 + t112)))) = some r := H
    have A3 := aMk A30
    clear A30
    by_cases c4 : t112 = 0
    ·rw [if_pos c4] at H
     have c4b0 : (t112 == 0) = true := beT c4
     have c4b1 : (t112 != 0) = false := bnF c4
     clear c4
     obtain rfl := Option.some.inj H
     go_wp2_with (first | ((with_reducible refine gate_callee (f := 68) rfl ?_); refine goesL_ (some 12) rfl rfl Try.func68 (by kernel_rfl) rfl #[.string a0, .int .i64 x4_1] rfl (aP76) ?_; (with_reducible refine (quipuref11_Rune.calls k1 a0 x4_1 t112 _ A3.out).mono ?_); rintro e w' ⟨rfl, ⟨nd, rfl⟩⟩; refine ⟨_, rfl, ?_⟩))
     go_ret
     exact ⟨aP77, aP78⟩
    ·rw [if_neg c4] at H
     have c4b0 : (t112 == 0) = false := beF c4
     have c4b1 : (t112 != 0) = true := bnT c4
     have H' := aMk H
     clear H
     go_wp2_with (first | ((with_reducible refine gate_callee (f := 68) rfl ?_); refine goesL_ (some 12) rfl rfl Try.func68 (by kernel_rfl) rfl #[.string a0, .int .i64 x4_1] rfl (aP76) ?_; (with_reducible refine (quipuref11_Rune.calls k1 a0 x4_1 t112 _ A3.out).mono ?_); rintro e w' ⟨rfl, ⟨nd, rfl⟩⟩; refine ⟨_, rfl, ?_⟩))
     go_roundg k1
     case measure => have := HK1.out; omega
     case rel => exact ⟨(wrap64 (x3_1 + 1)), (wrap64 (x4_1 + t112)), (aP77), (aP77), H', ⟨by have := HK1.out; omega⟩, aP78⟩
   ·exact aP1
def cursor_Valid.f (k : Nat) (a0 : ByteArray) : Option (Bool) := (cursor_Runes.f k a0).bind fun t113 => (some (decide (t113 ≥ 0)))
set_option maxHeartbeats 8000000 in
set_option maxRecDepth 100000 in
theorem cursor_Valid.calls (k : Nat) (a0 : ByteArray) (r : Bool) (w : World) (h : cursor_Valid.f k a0 = some r) :
  Calls Try.prog 82 #[.string a0] w fun e w' => e = .returned (.bool r) ∧ Drawn0 w w' := by
 have H : ((cursor_Runes.f k a0).bind fun t113 => (some (decide (t113 ≥ 0)))) = some r := h
 clear h
 replace H := Option.bind_eq_some_iff.mp H
 obtain ⟨t113, A20, H⟩ := H
 replace H : (some (decide (t113 ≥ 0))) = some r := H
 have A2 := aMk A20
 clear A20
 obtain rfl := Option.some.inj H
 go_enter Try.func82, Try.ntmps82
 go_wp2_with (first | ((with_reducible refine gate_callee (f := 35) rfl ?_); refine goesL_ (some 4) rfl rfl Try.func35 (by kernel_rfl) rfl #[.string a0] rfl (aP76) ?_; (with_reducible refine (cursor_Runes.calls k a0 t113 _ A2.out).mono ?_); rintro e w' ⟨rfl, ⟨nd, rfl⟩⟩; refine ⟨_, rfl, ?_⟩))
 go_ret
 exact ⟨aP77, aP78⟩
def affix_single.j0 : Nat → Int → Bool → Int → Int → ByteArray → Option (Bool)
 | 0, _, _, _, _, _ => none
 | k + 1, x4, x20, x115000, x115001, x115002 => if x20 = true then (if x115002.toList = ([] : List UInt8) then (some (x115001 == 0)) else (some false)) else (if x4 = 5 then (if x115002.toList = ([] : List UInt8) then (if x115001 ≥ 1 then (some (decide (x115001 ≤ 3))) else (some false)) else (some false)) else (some false))
def affix_single.f (k : Nat) (a0_0 : Int) (a0_1 : Int) (a0_2 : ByteArray) : Option (Bool) := if a0_0 = 0 then (if a0_2.toList = ([] : List UInt8) then (some false) else (if a0_1 = 0 then ((cursor_Valid.f k a0_2).bind fun t115 => (some t115)) else (some false))) else (if a0_0 = 1 then (affix_single.j0 k a0_0 (a0_0 == 1) a0_0 a0_1 a0_2) else (if a0_0 = 2 then (affix_single.j0 k a0_0 (a0_0 == 2) a0_0 a0_1 a0_2) else (if a0_0 = 3 then (affix_single.j0 k a0_0 (a0_0 == 3) a0_0 a0_1 a0_2) else (affix_single.j0 k a0_0 (a0_0 == 4) a0_0 a0_1 a0_2))))
set_option maxHeartbeats 8000000 in
set_option maxRecDepth 100000 in
theorem affix_single.calls (k : Nat) (a0_0 : Int) (a0_1 : Int) (a0_2 : ByteArray) (r : Bool) (w : World) (h : affix_single.f k a0_0 a0_1 a0_2 = some r) :
  Calls Try.prog 61 #[.agg #[.int .i64 a0_0, .int .i64 a0_1, .string a0_2]] w fun e w' => e = .returned (.bool r) ∧ Below w.heap.size w w' := by
 have hu53 := Try.underlying53
 have HB := aMk (Below.refl w.heap.size w)
 have H : (if a0_0 = 0 then (if a0_2.toList = ([] : List UInt8) then (some false) else (if a0_1 = 0 then ((cursor_Valid.f k a0_2).bind fun t115 => (some t115)) else (some false))) else (if a0_0 = 1 then (affix_single.j0 k a0_0 (a0_0 == 1) a0_0 a0_1 a0_2) else (if a0_0 = 2 then (affix_single.j0 k a0_0 (a0_0 == 2) a0_0 a0_1 a0_2) else (if a0_0 = 3 then (affix_single.j0 k a0_0 (a0_0 == 3) a0_0 a0_1 a0_2) else (affix_single.j0 k a0_0 (a0_0 == 4) a0_0 a0_1 a0_2))))) = some r := h
 clear h
 by_cases c2 : a0_0 = 0
 ·rw [if_pos c2] at H
  have c2b0 : (a0_0 == 0) = true := beT c2
  have c2b1 : (a0_0 != 0) = false := bnF c2
  clear c2
  by_cases c3 : a0_2.toList = ([] : List UInt8)
  ·rw [if_pos c3] at H
   have c3b0 : (a0_2.toList == ([] : List UInt8)) = true := beT c3
   have c3b1 : (a0_2.toList != ([] : List UInt8)) = false := bnF c3
   clear c3
   obtain rfl := Option.some.inj H
   go_enter Try.func61, Try.ntmps61
   go_wp2_with (first | ((with_reducible refine gate_dst (N := 1) rfl ?_); refine box_event ?hg (N := 1) ?hd (cs := #[.int .i64 a0_0, .int .i64 a0_1, .string a0_2]) (t := 53) ?hr ?_; (case hd => rfl); (case hg => rfl); (case hr => first | (go_simp; done) | (go_simp; rfl)); intro gb114 hg w4 hbox hb; have n0_ := aMk (below_step (aP80) hb); have n1_ := aMk (hbox); have n2_ := aMk ((aP81 : w.heap.size ≤ gb114)); have n3_ := aMk ((aP81 : w.heap.size ≤ gb114)); clear HB; have HB := n0_; have BK114 := n1_; have GW114 := n2_; have GE114 := n3_; clear n0_ n1_ n2_ n3_; clear hb hbox hg; have hcz5_0 : w4.cell? ⟨gb114, 0, none⟩ = some (.int .i64 a0_0) := (blk_cell BK114.out 0).trans rfl; have hcz5_1 : w4.cell? ⟨gb114, 1, none⟩ = some (.int .i64 a0_1) := (blk_cell BK114.out 1).trans rfl; have hcz5_2 : w4.cell? ⟨gb114, 2, none⟩ = some (.string a0_2) := (blk_cell BK114.out 2).trans rfl; have hfz5_0 := blk_frozen BK114.out 0; have hfz5_1 := blk_frozen BK114.out 1; have hfz5_2 := blk_frozen BK114.out 2))
   exact aP28
  ·rw [if_neg c3] at H
   have c3b0 : (a0_2.toList == ([] : List UInt8)) = false := beF c3
   have c3b1 : (a0_2.toList != ([] : List UInt8)) = true := bnT c3
   by_cases c6 : a0_1 = 0
   ·rw [if_pos c6] at H
    have c6b0 : (a0_1 == 0) = true := beT c6
    have c6b1 : (a0_1 != 0) = false := bnF c6
    clear c6
    replace H := Option.bind_eq_some_iff.mp H
    obtain ⟨t115, A70, H⟩ := H
    replace H : (some t115) = some r := H
    have A7 := aMk A70
    clear A70
    obtain rfl := Option.some.inj H
    go_enter Try.func61, Try.ntmps61
    go_wp2_with (first | ((with_reducible refine gate_dst (N := 1) rfl ?_); refine box_event ?hg (N := 1) ?hd (cs := #[.int .i64 a0_0, .int .i64 a0_1, .string a0_2]) (t := 53) ?hr ?_; (case hd => rfl); (case hg => rfl); (case hr => first | (go_simp; done) | (go_simp; rfl)); intro gb114 hg w8 hbox hb; have n0_ := aMk (below_step (aP80) hb); have n1_ := aMk (hbox); have n2_ := aMk ((aP81 : w.heap.size ≤ gb114)); have n3_ := aMk ((aP81 : w.heap.size ≤ gb114)); clear HB; have HB := n0_; have BK114 := n1_; have GW114 := n2_; have GE114 := n3_; clear n0_ n1_ n2_ n3_; clear hb hbox hg; have hcz9_0 : w8.cell? ⟨gb114, 0, none⟩ = some (.int .i64 a0_0) := (blk_cell BK114.out 0).trans rfl; have hcz9_1 : w8.cell? ⟨gb114, 1, none⟩ = some (.int .i64 a0_1) := (blk_cell BK114.out 1).trans rfl; have hcz9_2 : w8.cell? ⟨gb114, 2, none⟩ = some (.string a0_2) := (blk_cell BK114.out 2).trans rfl; have hfz9_0 := blk_frozen BK114.out 0; have hfz9_1 := blk_frozen BK114.out 1; have hfz9_2 := blk_frozen BK114.out 2) | (go_at_call 82; (with_reducible refine (cursor_Valid.calls k a0_2 t115 _ A7.out).mono ?_); rintro e w' ⟨rfl, ⟨nd, rfl⟩⟩))
    exact aP28
   ·rw [if_neg c6] at H
    have c6b0 : (a0_1 == 0) = false := beF c6
    have c6b1 : (a0_1 != 0) = true := bnT c6
    obtain rfl := Option.some.inj H
    go_enter Try.func61, Try.ntmps61
    go_wp2_with (first | ((with_reducible refine gate_dst (N := 1) rfl ?_); refine box_event ?hg (N := 1) ?hd (cs := #[.int .i64 a0_0, .int .i64 a0_1, .string a0_2]) (t := 53) ?hr ?_; (case hd => rfl); (case hg => rfl); (case hr => first | (go_simp; done) | (go_simp; rfl)); intro gb114 hg w10 hbox hb; have n0_ := aMk (below_step (aP80) hb); have n1_ := aMk (hbox); have n2_ := aMk ((aP81 : w.heap.size ≤ gb114)); have n3_ := aMk ((aP81 : w.heap.size ≤ gb114)); clear HB; have HB := n0_; have BK114 := n1_; have GW114 := n2_; have GE114 := n3_; clear n0_ n1_ n2_ n3_; clear hb hbox hg; have hcz11_0 : w10.cell? ⟨gb114, 0, none⟩ = some (.int .i64 a0_0) := (blk_cell BK114.out 0).trans rfl; have hcz11_1 : w10.cell? ⟨gb114, 1, none⟩ = some (.int .i64 a0_1) := (blk_cell BK114.out 1).trans rfl; have hcz11_2 : w10.cell? ⟨gb114, 2, none⟩ = some (.string a0_2) := (blk_cell BK114.out 2).trans rfl; have hfz11_0 := blk_frozen BK114.out 0; have hfz11_1 := blk_frozen BK114.out 1; have hfz11_2 := blk_frozen BK114.out 2))
    exact aP28
 ·rw [if_neg c2] at H
  have c2b0 : (a0_0 == 0) = false := beF c2
  have c2b1 : (a0_0 != 0) = true := bnT c2
  have HC12 := aMk H
  clear H
  go_enter Try.func61, Try.ntmps61
  go_upto_if 20 with (first | ((with_reducible refine gate_dst (N := 1) rfl ?_); refine box_event ?hg (N := 1) ?hd (cs := #[.int .i64 a0_0, .int .i64 a0_1, .string a0_2]) (t := 53) ?hr ?_; (case hd => rfl); (case hg => rfl); (case hr => first | (go_simp; done) | (go_simp; rfl)); intro gb114 hg w13 hbox hb; have n0_ := aMk (below_step (aP80) hb); have n1_ := aMk (hbox); have n2_ := aMk ((aP81 : w.heap.size ≤ gb114)); have n3_ := aMk ((aP81 : w.heap.size ≤ gb114)); clear HB; have HB := n0_; have BK114 := n1_; have GW114 := n2_; have GE114 := n3_; clear n0_ n1_ n2_ n3_; clear hb hbox hg; have hcz14_0 : w13.cell? ⟨gb114, 0, none⟩ = some (.int .i64 a0_0) := (blk_cell BK114.out 0).trans rfl; have hcz14_1 : w13.cell? ⟨gb114, 1, none⟩ = some (.int .i64 a0_1) := (blk_cell BK114.out 1).trans rfl; have hcz14_2 : w13.cell? ⟨gb114, 2, none⟩ = some (.string a0_2) := (blk_cell BK114.out 2).trans rfl; have hfz14_0 := blk_frozen BK114.out 0; have hfz14_1 := blk_frozen BK114.out 1; have hfz14_2 := blk_frozen BK114.out 2))
  (try simp only [Act.put, List.setIfInBounds_toArray, List.set_cons_zero, List.set_cons_succ])
  go_cut [20] (fun v20 wc => ∃ (kq : Nat) (x20_11 : Bool), v20 = .bool x20_11 ∧ Aside0 (affix_single.j0 kq a0_0 x20_11 a0_0 a0_1 a0_2 = some r) ∧ Aside0 (kq ≤ k) ∧ Aside0 (wc.heap[gb114]? = some (.cells #[.int .i64 a0_0, .int .i64 a0_1, .string a0_2] 53 (0, 0))) ∧ Aside0 (Below w.heap.size w wc))
  case first =>
   have H := HC12.out
   clear HC12
   by_cases c15 : a0_0 = 1
   ·rw [if_pos c15] at H
    have c15b0 : (a0_0 == 1) = true := beT c15
    have c15b1 : (a0_0 != 1) = false := bnF c15
    clear c15
    (first | rw [c15b0] | (simp only [i64_w, i32_w]; rw [c15b0]) | skip)
    have H' := aMk H
    clear H
    go_wp2
    go_meet
    case rel => exact ⟨_, ((a0_0 == 1)), (aP77), H', ⟨aP82⟩, ⟨aP83⟩, ⟨aP84⟩⟩
   ·rw [if_neg c15] at H
    have c15b0 : (a0_0 == 1) = false := beF c15
    have c15b1 : (a0_0 != 1) = true := bnT c15
    (first | rw [c15b0] | (simp only [i64_w, i32_w]; rw [c15b0]) | skip)
    by_cases c16 : a0_0 = 2
    ·rw [if_pos c16] at H
     have c16b0 : (a0_0 == 2) = true := beT c16
     have c16b1 : (a0_0 != 2) = false := bnF c16
     clear c16
     have H' := aMk H
     clear H
     go_wp2
     go_meet
     case rel => exact ⟨_, ((a0_0 == 2)), (aP77), H', ⟨aP82⟩, ⟨aP83⟩, ⟨aP84⟩⟩
    ·rw [if_neg c16] at H
     have c16b0 : (a0_0 == 2) = false := beF c16
     have c16b1 : (a0_0 != 2) = true := bnT c16
     by_cases c17 : a0_0 = 3
     ·rw [if_pos c17] at H
      have c17b0 : (a0_0 == 3) = true := beT c17
      have c17b1 : (a0_0 != 3) = false := bnF c17
      clear c17
      have H' := aMk H
      clear H
      go_wp2
      go_meet
      case rel => exact ⟨_, ((a0_0 == 3)), (aP77), H', ⟨aP82⟩, ⟨aP83⟩, ⟨aP84⟩⟩
     ·rw [if_neg c17] at H
      have c17b0 : (a0_0 == 3) = false := beF c17
      have c17b1 : (a0_0 != 3) = true := bnT c17
      have H' := aMk H
      clear H
      go_wp2
      go_meet
      case rel => exact ⟨_, ((a0_0 == 4)), (aP77), H', ⟨aP82⟩, ⟨aP83⟩, ⟨aP84⟩⟩
  case rest =>
   clear HC12
   try clear c1
   try clear c2
   try clear c2b0
   try clear c2b1
   try clear p2
   try clear c3
   try clear c3b0
   try clear c3b1
   try clear c6
   try clear c6b0
   try clear c6b1
   try clear c15
   try clear c15b0
   try clear c15b1
   try clear c16
   try clear c16b0
   try clear c16b1
   try clear c17
   try clear c17b0
   try clear c17b1
   try clear hcz11_0
   try clear hcz11_1
   try clear hcz11_2
   try clear hcz14_0
   try clear hcz14_1
   try clear hcz14_2
   try clear hcz5_0
   try clear hcz5_1
   try clear hcz5_2
   try clear hcz9_0
   try clear hcz9_1
   try clear hcz9_2
   try clear hfz11_0
   try clear hfz11_1
   try clear hfz11_2
   try clear hfz14_0
   try clear hfz14_1
   try clear hfz14_2
   try clear hfz5_0
   try clear hfz5_1
   try clear hfz5_2
   try clear hfz9_0
   try clear hfz9_1
   try clear hfz9_2
   obtain ⟨kq, x20_11, rfl, HA, HJ11, BK114, HB⟩ := hcut
   cases kq with
   | zero => exact absurd HA.out (by simp [affix_single.j0])
   | succ kj11 =>
    have H := HA.out
    clear HA
    simp only [affix_single.j0] at H
    by_cases c18 : x20_11 = true
    ·subst c18
     have H1 : (if a0_2.toList = ([] : List UInt8) then (some (a0_1 == 0)) else (some false)) = some r := aP79
     clear H
     have H := H1
     clear H1
     by_cases c19 : a0_2.toList = ([] : List UInt8)
     ·rw [if_pos c19] at H
      have c19b0 : (a0_2.toList == ([] : List UInt8)) = true := beT c19
      have c19b1 : (a0_2.toList != ([] : List UInt8)) = false := bnF c19
      clear c19
      obtain rfl := Option.some.inj H
      have hcz20_0 : wc.cell? ⟨gb114, 0, none⟩ = some (.int .i64 a0_0) := (blk_cell BK114.out 0).trans rfl
      have hcz20_1 : wc.cell? ⟨gb114, 1, none⟩ = some (.int .i64 a0_1) := (blk_cell BK114.out 1).trans rfl
      have hcz20_2 : wc.cell? ⟨gb114, 2, none⟩ = some (.string a0_2) := (blk_cell BK114.out 2).trans rfl
      have hfz20_0 := blk_frozen BK114.out 0
      have hfz20_1 := blk_frozen BK114.out 1
      have hfz20_2 := blk_frozen BK114.out 2
      exact aP27
     ·rw [if_neg c19] at H
      have c19b0 : (a0_2.toList == ([] : List UInt8)) = false := beF c19
      have c19b1 : (a0_2.toList != ([] : List UInt8)) = true := bnT c19
      obtain rfl := Option.some.inj H
      have hcz21_0 : wc.cell? ⟨gb114, 0, none⟩ = some (.int .i64 a0_0) := (blk_cell BK114.out 0).trans rfl
      have hcz21_1 : wc.cell? ⟨gb114, 1, none⟩ = some (.int .i64 a0_1) := (blk_cell BK114.out 1).trans rfl
      have hcz21_2 : wc.cell? ⟨gb114, 2, none⟩ = some (.string a0_2) := (blk_cell BK114.out 2).trans rfl
      have hfz21_0 := blk_frozen BK114.out 0
      have hfz21_1 := blk_frozen BK114.out 1
      have hfz21_2 := blk_frozen BK114.out 2
      exact aP27
    ·replace c18 := Bool.eq_false_iff.mpr c18
     subst c18
     have H1 : (if a0_0 = 5 then (if a0_2.toList = ([] : List UInt8) then (if a0_1 ≥ 1 then (some (decide (a0_1 ≤ 3))) else (some false)) else (some false)) else (some false)) = some r := aP74
     clear H
     have H := H1
     clear H1
     by_cases c22 : a0_0 = 5
     ·rw [if_pos c22] at H
      have c22b0 : (a0_0 == 5) = true := beT c22
      have c22b1 : (a0_0 != 5) = false := bnF c22
      clear c22
      by_cases c23 : a0_2.toList = ([] : List UInt8)
      ·rw [if_pos c23] at H
       have c23b0 : (a0_2.toList == ([] : List UInt8)) = true := beT c23
       have c23b1 : (a0_2.toList != ([] : List UInt8)) = false := bnF c23
       clear c23
       by_cases c24 : a0_1 ≥ 1
       ·rw [if_pos c24] at H
        have c24b0 : decide (1 ≤ a0_1) = true := dTr c24
        clear c24
        obtain rfl := Option.some.inj H
        have hcz25_0 : wc.cell? ⟨gb114, 0, none⟩ = some (.int .i64 a0_0) := (blk_cell BK114.out 0).trans rfl
        have hcz25_1 : wc.cell? ⟨gb114, 1, none⟩ = some (.int .i64 a0_1) := (blk_cell BK114.out 1).trans rfl
        have hcz25_2 : wc.cell? ⟨gb114, 2, none⟩ = some (.string a0_2) := (blk_cell BK114.out 2).trans rfl
        have hfz25_0 := blk_frozen BK114.out 0
        have hfz25_1 := blk_frozen BK114.out 1
        have hfz25_2 := blk_frozen BK114.out 2
        exact aP27
       ·rw [if_neg c24] at H
        have c24b0 : decide (1 ≤ a0_1) = false := dFa c24
        clear c24
        obtain rfl := Option.some.inj H
        have hcz26_0 : wc.cell? ⟨gb114, 0, none⟩ = some (.int .i64 a0_0) := (blk_cell BK114.out 0).trans rfl
        have hcz26_1 : wc.cell? ⟨gb114, 1, none⟩ = some (.int .i64 a0_1) := (blk_cell BK114.out 1).trans rfl
        have hcz26_2 : wc.cell? ⟨gb114, 2, none⟩ = some (.string a0_2) := (blk_cell BK114.out 2).trans rfl
        have hfz26_0 := blk_frozen BK114.out 0
        have hfz26_1 := blk_frozen BK114.out 1
        have hfz26_2 := blk_frozen BK114.out 2
        exact aP27
      ·rw [if_neg c23] at H
       have c23b0 : (a0_2.toList == ([] : List UInt8)) = false := beF c23
       have c23b1 : (a0_2.toList != ([] : List UInt8)) = true := bnT c23
       obtain rfl := Option.some.inj H
       have hcz27_0 : wc.cell? ⟨gb114, 0, none⟩ = some (.int .i64 a0_0) := (blk_cell BK114.out 0).trans rfl
       have hcz27_1 : wc.cell? ⟨gb114, 1, none⟩ = some (.int .i64 a0_1) := (blk_cell BK114.out 1).trans rfl
       have hcz27_2 : wc.cell? ⟨gb114, 2, none⟩ = some (.string a0_2) := (blk_cell BK114.out 2).trans rfl
       have hfz27_0 := blk_frozen BK114.out 0
       have hfz27_1 := blk_frozen BK114.out 1
       have hfz27_2 := blk_frozen BK114.out 2
       exact aP27
     ·rw [if_neg c22] at H
      have c22b0 : (a0_0 == 5) = false := beF c22
      have c22b1 : (a0_0 != 5) = true := bnT c22
      obtain rfl := Option.some.inj H
      exact aP27
def affix_Check.l0 : Nat → List (S53) → Int → List (S53) → Int → Int → Option (Int)
 | 0, _, _, _, _, _ => none
 | k + 1, x0, x3, x7, x8, x9 => if x9 < x8 then (if 0 ≤ x9 then (if x9 < (x7.length : Int) then (if x9 > 0 then (if 0 ≤ (wrap64 (x9 - 1)) then (if (wrap64 (x9 - 1)) < (x0.length : Int) then (if ((rd_T53 x0 (wrap64 (x9 - 1))).f0) = ((rd_T53 x7 x9).f0) then (if ((rd_T53 x7 x9).f0) = 0 then (some 131) else (if ((rd_T53 x7 x9).f0) = 5 then (some 131) else ((affix_single.f k ((rd_T53 x7 x9).f0) ((rd_T53 x7 x9).f1) ((rd_T53 x7 x9).f2)).bind fun t119 => (if t119 = true then (affix_Check.l0 k x0 (wrap64 (x3 + (((rd_T53 x7 x9).f2).size : Int))) x7 x8 (wrap64 (x9 + 1))) else (some 131))))) else ((affix_single.f k ((rd_T53 x7 x9).f0) ((rd_T53 x7 x9).f1) ((rd_T53 x7 x9).f2)).bind fun t120 => (if t120 = true then (affix_Check.l0 k x0 (wrap64 (x3 + (((rd_T53 x7 x9).f2).size : Int))) x7 x8 (wrap64 (x9 + 1))) else (some 131)))) else (none)) else (none)) else ((affix_single.f k ((rd_T53 x7 x9).f0) ((rd_T53 x7 x9).f1) ((rd_T53 x7 x9).f2)).bind fun t121 => (if t121 = true then (affix_Check.l0 k x0 (wrap64 (x3 + (((rd_T53 x7 x9).f2).size : Int))) x7 x8 (wrap64 (x9 + 1))) else (some 131)))) else (none)) else (none)) else (if (x0.length : Int) > 64 then (some 132) else (if x3 > 64 then (some 132) else (some 0)))
def affix_Check.f (k : Nat) (l0 : List (S53)) : Option (Int) := affix_Check.l0 k l0 0 l0 (l0.length : Int) 0
set_option maxHeartbeats 8000000 in
set_option maxRecDepth 100000 in
theorem affix_Check.calls (k : Nat) (A0 : Option Addr) (c0 : Nat) (l0 : List (S53)) (r : Int) (w : World) (hr0 : Kd.C k53 w A0 l0.length l0) (hc0 : l0.length ≤ c0) (h : affix_Check.f k l0 = some r) :
  Calls Try.prog 33 #[.slice A0 l0.length c0] w fun e w' => e = .returned (.int .i64 r) ∧ Below w.heap.size w w' := by
 have hu53 := Try.underlying53
 have HR0 := aMk hr0
 have HC0 := aMk hc0
 clear hr0 hc0
 have HB := aMk (Below.refl w.heap.size w)
 have H : (affix_Check.l0 k l0 0 l0 (l0.length : Int) 0) = some r := h
 clear h
 have H' := aMk H
 clear H
 go_enter Try.func33, Try.ntmps33
 go_wp2
 repeat (go_quiet (fail); try go_wp2)
 go_loopg [3, 9] k (fun kq v3 v9 w' => ∃ (x3_1 : Int) (x9_1 : Int), v3 = .int .i64 x3_1 ∧ v9 = .int .i64 x9_1 ∧ Aside0 (affix_Check.l0 kq l0 x3_1 l0 (l0.length : Int) x9_1 = some r) ∧ Aside0 (kq ≤ k) ∧ Aside0 (Below w.heap.size w w'))
 case atStart => exact ⟨(0), (0), (aP77), (aP77), H', ⟨Nat.le_refl _⟩, ⟨aP80⟩⟩
 case round =>
  clear H'
  obtain ⟨x3_1, x9_1, rfl, rfl, HA, HK1, HB⟩ := hrel
  cases gk with
  | zero => exact absurd HA.out (by simp [affix_Check.l0])
  | succ k1 =>
   have H := HA.out
   clear HA
   simp only [affix_Check.l0] at H
   by_cases c2 : x9_1 < (l0.length : Int)
   ·rw [if_pos c2] at H
    have c2b0 : decide (x9_1 < (l0.length : Int)) = true := dTr c2
    clear c2
    by_cases c3 : 0 ≤ x9_1
    ·rw [if_pos c3] at H
     have c3b0 : decide (0 ≤ x9_1) = true := dTr c3
     clear c3
     by_cases c4 : x9_1 < (l0.length : Int)
     ·rw [if_pos c4] at H
      have c4b0 : decide (x9_1 < (l0.length : Int)) = true := dTr c4
      clear c4
      by_cases c5 : x9_1 > 0
      ·rw [if_pos c5] at H
       have c5b0 : decide (0 < x9_1) = true := dTr c5
       clear c5
       obtain ⟨ji6, hji6⟩ : ∃ j_ : Int, (wrap64 (x9_1 - 1)) = j_ := ⟨_, rfl⟩
       replace H : (if 0 ≤ (ji6) then (if (ji6) < (l0.length : Int) then (if ((rd_T53 l0 (ji6)).f0) = ((rd_T53 l0 x9_1).f0) then (if ((rd_T53 l0 x9_1).f0) = 0 then (some 131) else (if ((rd_T53 l0 x9_1).f0) = 5 then (some 131) else ((affix_single.f k1 ((rd_T53 l0 x9_1).f0) ((rd_T53 l0 x9_1).f1) ((rd_T53 l0 x9_1).f2)).bind fun t119 => (if t119 = true then (affix_Check.l0 k1 l0 (wrap64 (x3_1 + (((rd_T53 l0 x9_1).f2).size : Int))) l0 (l0.length : Int) (wrap64 (x9_1 + 1))) else (some 131))))) else ((affix_single.f k1 ((rd_T53 l0 x9_1).f0) ((rd_T53 l0 x9_1).f1) ((rd_T53 l0 x9_1).f2)).bind fun t120 => (if t120 = true then (affix_Check.l0 k1 l0 (wrap64 (x3_1 + (((rd_T53 l0 x9_1).f2).size : Int))) l0 (l0.length : Int) (wrap64 (x9_1 + 1))) else (some 131)))) else (none)) else (none)) = some r := by first | (rw [hji6] at H; exact H) | (simp only [hji6] at H ⊢; exact H)
       have hji6w : (IntKind.i64.wrap (x9_1 - 1)) = ji6 := (i64_w _).trans hji6
       by_cases c7 : 0 ≤ (ji6)
       ·rw [if_pos c7] at H
        have c7b0 : decide (0 ≤ (ji6)) = true := dTr c7
        clear c7
        by_cases c8 : (ji6) < (l0.length : Int)
        ·rw [if_pos c8] at H
         have c8b0 : decide ((ji6) < (l0.length : Int)) = true := dTr c8
         clear c8
         by_cases c9 : ((rd_T53 l0 (ji6)).f0) = ((rd_T53 l0 x9_1).f0)
         ·rw [if_pos c9] at H
          have c9b0 : (((rd_T53 l0 (ji6)).f0) == ((rd_T53 l0 x9_1).f0)) = true := beT c9
          have c9b1 : (((rd_T53 l0 (ji6)).f0) != ((rd_T53 l0 x9_1).f0)) = false := bnF c9
          clear c9
          by_cases c10 : ((rd_T53 l0 x9_1).f0) = 0
          ·rw [if_pos c10] at H
           have c10b0 : (((rd_T53 l0 x9_1).f0) == 0) = true := beT c10
           have c10b1 : (((rd_T53 l0 x9_1).f0) != 0) = false := bnF c10
           clear c10
           obtain rfl := Option.some.inj H
           have p116 : 0 ≤ (x9_1 : Int) := of_decide_eq_true (aP75)
           have q116 : x9_1 < (l0.length : Int) := of_decide_eq_true (aP75)
           obtain ⟨ad116, e116, hx116_0, hx116_1, hx116_2⟩ := at_T53 HR0.out x9_1 p116 q116
           cases e116
           replace hx116_0 := (HB.out.cell (World.block_lt_of_cell? w _ hx116_0)).trans hx116_0
           replace hx116_1 := (HB.out.cell (World.block_lt_of_cell? w _ hx116_1)).trans hx116_1
           replace hx116_2 := (HB.out.cell (World.block_lt_of_cell? w _ hx116_2)).trans hx116_2
           replace p116 := eq_true p116
           replace q116 := eq_true q116
           go_wp2_with (first | ((with_reducible refine gate_dst (N := 5) rfl ?_); refine box_event ?hg (N := 5) ?hd (cs := #[.int .i64 0, .int .i64 0, .string (⟨#[]⟩ : ByteArray)]) (t := 53) ?hr ?_; (case hd => rfl); (case hg => rfl); (case hr => first | (go_simp; done) | (go_simp; rfl)); intro gb117 hg w11 hbox hb; have n0_ := aMk (below_step (aP80) hb); have n1_ := aMk (hbox); have n2_ := aMk ((aP81 : w.heap.size ≤ gb117)); have n3_ := aMk ((aP81 : w.heap.size ≤ gb117)); clear HB; have HB := n0_; have BK117 := n1_; have GW117 := n2_; have GE117 := n3_; clear n0_ n1_ n2_ n3_; clear hb hbox hg; have hcz12_0 : w11.cell? ⟨gb117, 0, none⟩ = some (.int .i64 0) := (blk_cell BK117.out 0).trans rfl; have hcz12_1 : w11.cell? ⟨gb117, 1, none⟩ = some (.int .i64 0) := (blk_cell BK117.out 1).trans rfl; have hcz12_2 : w11.cell? ⟨gb117, 2, none⟩ = some (.string (⟨#[]⟩ : ByteArray)) := (blk_cell BK117.out 2).trans rfl; have hfz12_0 := blk_frozen BK117.out 0; have hfz12_1 := blk_frozen BK117.out 1; have hfz12_2 := blk_frozen BK117.out 2; have p118 : 0 ≤ ((ji6) : Int) := of_decide_eq_true (aP75); have q118 : (ji6) < (l0.length : Int) := of_decide_eq_true (aP75); obtain ⟨ad118, e118, hx118_0, hx118_1, hx118_2⟩ := at_T53 HR0.out (ji6) p118 q118; obtain rfl : ad116 = ad118 := (by injection e118); have hn118_0 : ad116.block ≠ gb117 := Nat.ne_of_lt (Nat.lt_of_lt_of_le (aP85) GW117.out); have hn118_1 : ad116.block ≠ gb117 := Nat.ne_of_lt (Nat.lt_of_lt_of_le (aP85) GW117.out); have hn118_2 : ad116.block ≠ gb117 := Nat.ne_of_lt (Nat.lt_of_lt_of_le (aP85) GW117.out); replace hx118_0 := (HB.out.cell (World.block_lt_of_cell? w _ hx118_0)).trans hx118_0; replace hx118_1 := (HB.out.cell (World.block_lt_of_cell? w _ hx118_1)).trans hx118_1; replace hx118_2 := (HB.out.cell (World.block_lt_of_cell? w _ hx118_2)).trans hx118_2; replace hx118_0 := (cell_far (p := ⟨gb117, 0, none⟩) (aP86) (.int .i64 ((rd_T53 l0 x9_1).f0))).trans hx118_0; replace hx118_1 := (cell_far (p := ⟨gb117, 0, none⟩) (aP86) (.int .i64 ((rd_T53 l0 x9_1).f0))).trans hx118_1; replace hx118_2 := (cell_far (p := ⟨gb117, 0, none⟩) (aP86) (.int .i64 ((rd_T53 l0 x9_1).f0))).trans hx118_2; replace hx118_0 := (cell_far (p := ⟨gb117, 1, none⟩) (aP87) (.int .i64 ((rd_T53 l0 x9_1).f1))).trans hx118_0; replace hx118_1 := (cell_far (p := ⟨gb117, 1, none⟩) (aP87) (.int .i64 ((rd_T53 l0 x9_1).f1))).trans hx118_1; replace hx118_2 := (cell_far (p := ⟨gb117, 1, none⟩) (aP87) (.int .i64 ((rd_T53 l0 x9_1).f1))).trans hx118_2; replace hx118_0 := (cell_far (p := ⟨gb117, 2, none⟩) (aP88) (.string ((rd_T53 l0 x9_1).f2))).trans hx118_0; replace hx118_1 := (cell_far (p := ⟨gb117, 2, none⟩) (aP88) (.string ((rd_T53 l0 x9_1).f2))).trans hx118_1; replace hx118_2 := (cell_far (p := ⟨gb117, 2, none⟩) (aP88) (.string ((rd_T53 l0 x9_1).f2))).trans hx118_2; (try have hy118_0 := fun (n_ : Nat) => (show (((((w11.drewN n_).setCell ⟨gb117, 0, none⟩ (.int .i64 ((rd_T53 l0 x9_1).f0))).setCell ⟨gb117, 1, none⟩ (.int .i64 ((rd_T53 l0 x9_1).f1))).setCell ⟨gb117, 2, none⟩ (.string ((rd_T53 l0 x9_1).f2)))).cell? _ = some _ from hx118_0)); (try have hy118_1 := fun (n_ : Nat) => (show (((((w11.drewN n_).setCell ⟨gb117, 0, none⟩ (.int .i64 ((rd_T53 l0 x9_1).f0))).setCell ⟨gb117, 1, none⟩ (.int .i64 ((rd_T53 l0 x9_1).f1))).setCell ⟨gb117, 2, none⟩ (.string ((rd_T53 l0 x9_1).f2)))).cell? _ = some _ from hx118_1)); (try have hy118_2 := fun (n_ : Nat) => (show (((((w11.drewN n_).setCell ⟨gb117, 0, none⟩ (.int .i64 ((rd_T53 l0 x9_1).f0))).setCell ⟨gb117, 1, none⟩ (.int .i64 ((rd_T53 l0 x9_1).f1))).setCell ⟨gb117, 2, none⟩ (.string ((rd_T53 l0 x9_1).f2)))).cell? _ = some _ from hx118_2)); clear hn118_0; clear hn118_1; clear hn118_2; replace p118 := eq_true p118; replace q118 := eq_true q118))
           repeat (go_quiet (first | ((with_reducible refine gate_dst (N := 5) rfl ?_); refine box_event ?hg (N := 5) ?hd (cs := #[.int .i64 0, .int .i64 0, .string (⟨#[]⟩ : ByteArray)]) (t := 53) ?hr ?_; (case hd => rfl); (case hg => rfl); (case hr => first | (go_simp; done) | (go_simp; rfl)); intro gb117 hg w11 hbox hb; have n0_ := aMk (below_step (aP80) hb); have n1_ := aMk (hbox); have n2_ := aMk ((aP81 : w.heap.size ≤ gb117)); have n3_ := aMk ((aP81 : w.heap.size ≤ gb117)); clear HB; have HB := n0_; have BK117 := n1_; have GW117 := n2_; have GE117 := n3_; clear n0_ n1_ n2_ n3_; clear hb hbox hg; have hcz12_0 : w11.cell? ⟨gb117, 0, none⟩ = some (.int .i64 0) := (blk_cell BK117.out 0).trans rfl; have hcz12_1 : w11.cell? ⟨gb117, 1, none⟩ = some (.int .i64 0) := (blk_cell BK117.out 1).trans rfl; have hcz12_2 : w11.cell? ⟨gb117, 2, none⟩ = some (.string (⟨#[]⟩ : ByteArray)) := (blk_cell BK117.out 2).trans rfl; have hfz12_0 := blk_frozen BK117.out 0; have hfz12_1 := blk_frozen BK117.out 1; have hfz12_2 := blk_frozen BK117.out 2; have p118 : 0 ≤ ((ji6) : Int) := of_decide_eq_true (aP75); have q118 : (ji6) < (l0.length : Int) := of_decide_eq_true (aP75); obtain ⟨ad118, e118, hx118_0, hx118_1, hx118_2⟩ := at_T53 HR0.out (ji6) p118 q118; obtain rfl : ad116 = ad118 := (by injection e118); have hn118_0 : ad116.block ≠ gb117 := Nat.ne_of_lt (Nat.lt_of_lt_of_le (aP85) GW117.out); have hn118_1 : ad116.block ≠ gb117 := Nat.ne_of_lt (Nat.lt_of_lt_of_le (aP85) GW117.out); have hn118_2 : ad116.block ≠ gb117 := Nat.ne_of_lt (Nat.lt_of_lt_of_le (aP85) GW117.out); replace hx118_0 := (HB.out.cell (World.block_lt_of_cell? w _ hx118_0)).trans hx118_0; replace hx118_1 := (HB.out.cell (World.block_lt_of_cell? w _ hx118_1)).trans hx118_1; replace hx118_2 := (HB.out.cell (World.block_lt_of_cell? w _ hx118_2)).trans hx118_2; replace hx118_0 := (cell_far (p := ⟨gb117, 0, none⟩) (aP86) (.int .i64 ((rd_T53 l0 x9_1).f0))).trans hx118_0; replace hx118_1 := (cell_far (p := ⟨gb117, 0, none⟩) (aP86) (.int .i64 ((rd_T53 l0 x9_1).f0))).trans hx118_1; replace hx118_2 := (cell_far (p := ⟨gb117, 0, none⟩) (aP86) (.int .i64 ((rd_T53 l0 x9_1).f0))).trans hx118_2; replace hx118_0 := (cell_far (p := ⟨gb117, 1, none⟩) (aP87) (.int .i64 ((rd_T53 l0 x9_1).f1))).trans hx118_0; replace hx118_1 := (cell_far (p := ⟨gb117, 1, none⟩) (aP87) (.int .i64 ((rd_T53 l0 x9_1).f1))).trans hx118_1; replace hx118_2 := (cell_far (p := ⟨gb117, 1, none⟩) (aP87) (.int .i64 ((rd_T53 l0 x9_1).f1))).trans hx118_2; replace hx118_0 := (cell_far (p := ⟨gb117, 2, none⟩) (aP88) (.string ((rd_T53 l0 x9_1).f2))).trans hx118_0; replace hx118_1 := (cell_far (p := ⟨gb117, 2, none⟩) (aP88) (.string ((rd_T53 l0 x9_1).f2))).trans hx118_1; replace hx118_2 := (cell_far (p := ⟨gb117, 2, none⟩) (aP88) (.string ((rd_T53 l0 x9_1).f2))).trans hx118_2; (try have hy118_0 := fun (n_ : Nat) => (show (((((w11.drewN n_).setCell ⟨gb117, 0, none⟩ (.int .i64 ((rd_T53 l0 x9_1).f0))).setCell ⟨gb117, 1, none⟩ (.int .i64 ((rd_T53 l0 x9_1).f1))).setCell ⟨gb117, 2, none⟩ (.string ((rd_T53 l0 x9_1).f2)))).cell? _ = some _ from hx118_0)); (try have hy118_1 := fun (n_ : Nat) => (show (((((w11.drewN n_).setCell ⟨gb117, 0, none⟩ (.int .i64 ((rd_T53 l0 x9_1).f0))).setCell ⟨gb117, 1, none⟩ (.int .i64 ((rd_T53 l0 x9_1).f1))).setCell ⟨gb117, 2, none⟩ (.string ((rd_T53 l0 x9_1).f2)))).cell? _ = some _ from hx118_1)); (try have hy118_2 := fun (n_ : Nat) => (show (((((w11.drewN n_).setCell ⟨gb117, 0, none⟩ (.int .i64 ((rd_T53 l0 x9_1).f0))).setCell ⟨gb117, 1, none⟩ (.int .i64 ((rd_T53 l0 x9_1).f1))).setCell ⟨gb117, 2, none⟩ (.string ((rd_T53 l0 x9_1).f2)))).cell? _ = some _ from hx118_2)); clear hn118_0; clear hn118_1; clear hn118_2; replace p118 := eq_true p118; replace q118 := eq_true q118)); try go_wp2_with (first | ((with_reducible refine gate_dst (N := 5) rfl ?_); refine box_event ?hg (N := 5) ?hd (cs := #[.int .i64 0, .int .i64 0, .string (⟨#[]⟩ : ByteArray)]) (t := 53) ?hr ?_; (case hd => rfl); (case hg => rfl); (case hr => first | (go_simp; done) | (go_simp; rfl)); intro gb117 hg w11 hbox hb; have n0_ := aMk (below_step (aP80) hb); have n1_ := aMk (hbox); have n2_ := aMk ((aP81 : w.heap.size ≤ gb117)); have n3_ := aMk ((aP81 : w.heap.size ≤ gb117)); clear HB; have HB := n0_; have BK117 := n1_; have GW117 := n2_; have GE117 := n3_; clear n0_ n1_ n2_ n3_; clear hb hbox hg; have hcz12_0 : w11.cell? ⟨gb117, 0, none⟩ = some (.int .i64 0) := (blk_cell BK117.out 0).trans rfl; have hcz12_1 : w11.cell? ⟨gb117, 1, none⟩ = some (.int .i64 0) := (blk_cell BK117.out 1).trans rfl; have hcz12_2 : w11.cell? ⟨gb117, 2, none⟩ = some (.string (⟨#[]⟩ : ByteArray)) := (blk_cell BK117.out 2).trans rfl; have hfz12_0 := blk_frozen BK117.out 0; have hfz12_1 := blk_frozen BK117.out 1; have hfz12_2 := blk_frozen BK117.out 2; have p118 : 0 ≤ ((ji6) : Int) := of_decide_eq_true (aP75); have q118 : (ji6) < (l0.length : Int) := of_decide_eq_true (aP75); obtain ⟨ad118, e118, hx118_0, hx118_1, hx118_2⟩ := at_T53 HR0.out (ji6) p118 q118; obtain rfl : ad116 = ad118 := (by injection e118); have hn118_0 : ad116.block ≠ gb117 := Nat.ne_of_lt (Nat.lt_of_lt_of_le (aP85) GW117.out); have hn118_1 : ad116.block ≠ gb117 := Nat.ne_of_lt (Nat.lt_of_lt_of_le (aP85) GW117.out); have hn118_2 : ad116.block ≠ gb117 := Nat.ne_of_lt (Nat.lt_of_lt_of_le (aP85) GW117.out); replace hx118_0 := (HB.out.cell (World.block_lt_of_cell? w _ hx118_0)).trans hx118_0; replace hx118_1 := (HB.out.cell (World.block_lt_of_cell? w _ hx118_1)).trans hx118_1; replace hx118_2 := (HB.out.cell (World.block_lt_of_cell? w _ hx118_2)).trans hx118_2; replace hx118_0 := (cell_far (p := ⟨gb117, 0, none⟩) (aP86) (.int .i64 ((rd_T53 l0 x9_1).f0))).trans hx118_0; replace hx118_1 := (cell_far (p := ⟨gb117, 0, none⟩) (aP86) (.int .i64 ((rd_T53 l0 x9_1).f0))).trans hx118_1; replace hx118_2 := (cell_far (p := ⟨gb117, 0, none⟩) (aP86) (.int .i64 ((rd_T53 l0 x9_1).f0))).trans hx118_2; replace hx118_0 := (cell_far (p := ⟨gb117, 1, none⟩) (aP87) (.int .i64 ((rd_T53 l0 x9_1).f1))).trans hx118_0; replace hx118_1 := (cell_far (p := ⟨gb117, 1, none⟩) (aP87) (.int .i64 ((rd_T53 l0 x9_1).f1))).trans hx118_1; replace hx118_2 := (cell_far (p := ⟨gb117, 1, none⟩) (aP87) (.int .i64 ((rd_T53 l0 x9_1).f1))).trans hx118_2; replace hx118_0 := (cell_far (p := ⟨gb117, 2, none⟩) (aP88) (.string ((rd_T53 l0 x9_1).f2))).trans hx118_0; replace hx118_1 := (cell_far (p := ⟨gb117, 2, none⟩) (aP88) (.string ((rd_T53 l0 x9_1).f2))).trans hx118_1; replace hx118_2 := (cell_far (p := ⟨gb117, 2, none⟩) (aP88) (.string ((rd_T53 l0 x9_1).f2))).trans hx118_2; (try have hy118_0 := fun (n_ : Nat) => (show (((((w11.drewN n_).setCell ⟨gb117, 0, none⟩ (.int .i64 ((rd_T53 l0 x9_1).f0))).setCell ⟨gb117, 1, none⟩ (.int .i64 ((rd_T53 l0 x9_1).f1))).setCell ⟨gb117, 2, none⟩ (.string ((rd_T53 l0 x9_1).f2)))).cell? _ = some _ from hx118_0)); (try have hy118_1 := fun (n_ : Nat) => (show (((((w11.drewN n_).setCell ⟨gb117, 0, none⟩ (.int .i64 ((rd_T53 l0 x9_1).f0))).setCell ⟨gb117, 1, none⟩ (.int .i64 ((rd_T53 l0 x9_1).f1))).setCell ⟨gb117, 2, none⟩ (.string ((rd_T53 l0 x9_1).f2)))).cell? _ = some _ from hx118_1)); (try have hy118_2 := fun (n_ : Nat) => (show (((((w11.drewN n_).setCell ⟨gb117, 0, none⟩ (.int .i64 ((rd_T53 l0 x9_1).f0))).setCell ⟨gb117, 1, none⟩ (.int .i64 ((rd_T53 l0 x9_1).f1))).setCell ⟨gb117, 2, none⟩ (.string ((rd_T53 l0 x9_1).f2)))).cell? _ = some _ from hx118_2)); clear hn118_0; clear hn118_1; clear hn118_2; replace p118 := eq_true p118; replace q118 := eq_true q118)))
           exact aP26
          ·rw [if_neg c10] at H
           have c10b0 : (((rd_T53 l0 x9_1).f0) == 0) = false := beF c10
           have c10b1 : (((rd_T53 l0 x9_1).f0) != 0) = true := bnT c10
           by_cases c13 : ((rd_T53 l0 x9_1).f0) = 5
           ·rw [if_pos c13] at H
            have c13b0 : (((rd_T53 l0 x9_1).f0) == 5) = true := beT c13
            have c13b1 : (((rd_T53 l0 x9_1).f0) != 5) = false := bnF c13
            clear c13
            obtain rfl := Option.some.inj H
            have p116 : 0 ≤ (x9_1 : Int) := of_decide_eq_true (aP75)
            have q116 : x9_1 < (l0.length : Int) := of_decide_eq_true (aP75)
            obtain ⟨ad116, e116, hx116_0, hx116_1, hx116_2⟩ := at_T53 HR0.out x9_1 p116 q116
            cases e116
            replace hx116_0 := (HB.out.cell (World.block_lt_of_cell? w _ hx116_0)).trans hx116_0
            replace hx116_1 := (HB.out.cell (World.block_lt_of_cell? w _ hx116_1)).trans hx116_1
            replace hx116_2 := (HB.out.cell (World.block_lt_of_cell? w _ hx116_2)).trans hx116_2
            replace p116 := eq_true p116
            replace q116 := eq_true q116
            go_wp2_with (first | ((with_reducible refine gate_dst (N := 5) rfl ?_); refine box_event ?hg (N := 5) ?hd (cs := #[.int .i64 0, .int .i64 0, .string (⟨#[]⟩ : ByteArray)]) (t := 53) ?hr ?_; (case hd => rfl); (case hg => rfl); (case hr => first | (go_simp; done) | (go_simp; rfl)); intro gb117 hg w14 hbox hb; have n0_ := aMk (below_step (aP80) hb); have n1_ := aMk (hbox); have n2_ := aMk ((aP81 : w.heap.size ≤ gb117)); have n3_ := aMk ((aP81 : w.heap.size ≤ gb117)); clear HB; have HB := n0_; have BK117 := n1_; have GW117 := n2_; have GE117 := n3_; clear n0_ n1_ n2_ n3_; clear hb hbox hg; have hcz15_0 : w14.cell? ⟨gb117, 0, none⟩ = some (.int .i64 0) := (blk_cell BK117.out 0).trans rfl; have hcz15_1 : w14.cell? ⟨gb117, 1, none⟩ = some (.int .i64 0) := (blk_cell BK117.out 1).trans rfl; have hcz15_2 : w14.cell? ⟨gb117, 2, none⟩ = some (.string (⟨#[]⟩ : ByteArray)) := (blk_cell BK117.out 2).trans rfl; have hfz15_0 := blk_frozen BK117.out 0; have hfz15_1 := blk_frozen BK117.out 1; have hfz15_2 := blk_frozen BK117.out 2; have p118 : 0 ≤ ((ji6) : Int) := of_decide_eq_true (aP75); have q118 : (ji6) < (l0.length : Int) := of_decide_eq_true (aP75); obtain ⟨ad118, e118, hx118_0, hx118_1, hx118_2⟩ := at_T53 HR0.out (ji6) p118 q118; obtain rfl : ad116 = ad118 := (by injection e118); have hn118_0 : ad116.block ≠ gb117 := Nat.ne_of_lt (Nat.lt_of_lt_of_le (aP85) GW117.out); have hn118_1 : ad116.block ≠ gb117 := Nat.ne_of_lt (Nat.lt_of_lt_of_le (aP85) GW117.out); have hn118_2 : ad116.block ≠ gb117 := Nat.ne_of_lt (Nat.lt_of_lt_of_le (aP85) GW117.out); replace hx118_0 := (HB.out.cell (World.block_lt_of_cell? w _ hx118_0)).trans hx118_0; replace hx118_1 := (HB.out.cell (World.block_lt_of_cell? w _ hx118_1)).trans hx118_1; replace hx118_2 := (HB.out.cell (World.block_lt_of_cell? w _ hx118_2)).trans hx118_2; replace hx118_0 := (cell_far (p := ⟨gb117, 0, none⟩) (aP86) (.int .i64 ((rd_T53 l0 x9_1).f0))).trans hx118_0; replace hx118_1 := (cell_far (p := ⟨gb117, 0, none⟩) (aP86) (.int .i64 ((rd_T53 l0 x9_1).f0))).trans hx118_1; replace hx118_2 := (cell_far (p := ⟨gb117, 0, none⟩) (aP86) (.int .i64 ((rd_T53 l0 x9_1).f0))).trans hx118_2; replace hx118_0 := (cell_far (p := ⟨gb117, 1, none⟩) (aP87) (.int .i64 ((rd_T53 l0 x9_1).f1))).trans hx118_0; replace hx118_1 := (cell_far (p := ⟨gb117, 1, none⟩) (aP87) (.int .i64 ((rd_T53 l0 x9_1).f1))).trans hx118_1; replace hx118_2 := (cell_far (p := ⟨gb117, 1, none⟩) (aP87) (.int .i64 ((rd_T53 l0 x9_1).f1))).trans hx118_2; replace hx118_0 := (cell_far (p := ⟨gb117, 2, none⟩) (aP88) (.string ((rd_T53 l0 x9_1).f2))).trans hx118_0; replace hx118_1 := (cell_far (p := ⟨gb117, 2, none⟩) (aP88) (.string ((rd_T53 l0 x9_1).f2))).trans hx118_1; replace hx118_2 := (cell_far (p := ⟨gb117, 2, none⟩) (aP88) (.string ((rd_T53 l0 x9_1).f2))).trans hx118_2; (try have hy118_0 := fun (n_ : Nat) => (show (((((w14.drewN n_).setCell ⟨gb117, 0, none⟩ (.int .i64 ((rd_T53 l0 x9_1).f0))).setCell ⟨gb117, 1, none⟩ (.int .i64 ((rd_T53 l0 x9_1).f1))).setCell ⟨gb117, 2, none⟩ (.string ((rd_T53 l0 x9_1).f2)))).cell? _ = some _ from hx118_0)); (try have hy118_1 := fun (n_ : Nat) => (show (((((w14.drewN n_).setCell ⟨gb117, 0, none⟩ (.int .i64 ((rd_T53 l0 x9_1).f0))).setCell ⟨gb117, 1, none⟩ (.int .i64 ((rd_T53 l0 x9_1).f1))).setCell ⟨gb117, 2, none⟩ (.string ((rd_T53 l0 x9_1).f2)))).cell? _ = some _ from hx118_1)); (try have hy118_2 := fun (n_ : Nat) => (show (((((w14.drewN n_).setCell ⟨gb117, 0, none⟩ (.int .i64 ((rd_T53 l0 x9_1).f0))).setCell ⟨gb117, 1, none⟩ (.int .i64 ((rd_T53 l0 x9_1).f1))).setCell ⟨gb117, 2, none⟩ (.string ((rd_T53 l0 x9_1).f2)))).cell? _ = some _ from hx118_2)); clear hn118_0; clear hn118_1; clear hn118_2; replace p118 := eq_true p118; replace q118 := eq_true q118))
            repeat (go_quiet (first | ((with_reducible refine gate_dst (N := 5) rfl ?_); refine box_event ?hg (N := 5) ?hd (cs := #[.int .i64 0, .int .i64 0, .string (⟨#[]⟩ : ByteArray)]) (t := 53) ?hr ?_; (case hd => rfl); (case hg => rfl); (case hr => first | (go_simp; done) | (go_simp; rfl)); intro gb117 hg w14 hbox hb; have n0_ := aMk (below_step (aP80) hb); have n1_ := aMk (hbox); have n2_ := aMk ((aP81 : w.heap.size ≤ gb117)); have n3_ := aMk ((aP81 : w.heap.size ≤ gb117)); clear HB; have HB := n0_; have BK117 := n1_; have GW117 := n2_; have GE117 := n3_; clear n0_ n1_ n2_ n3_; clear hb hbox hg; have hcz15_0 : w14.cell? ⟨gb117, 0, none⟩ = some (.int .i64 0) := (blk_cell BK117.out 0).trans rfl; have hcz15_1 : w14.cell? ⟨gb117, 1, none⟩ = some (.int .i64 0) := (blk_cell BK117.out 1).trans rfl; have hcz15_2 : w14.cell? ⟨gb117, 2, none⟩ = some (.string (⟨#[]⟩ : ByteArray)) := (blk_cell BK117.out 2).trans rfl; have hfz15_0 := blk_frozen BK117.out 0; have hfz15_1 := blk_frozen BK117.out 1; have hfz15_2 := blk_frozen BK117.out 2; have p118 : 0 ≤ ((ji6) : Int) := of_decide_eq_true (aP75); have q118 : (ji6) < (l0.length : Int) := of_decide_eq_true (aP75); obtain ⟨ad118, e118, hx118_0, hx118_1, hx118_2⟩ := at_T53 HR0.out (ji6) p118 q118; obtain rfl : ad116 = ad118 := (by injection e118); have hn118_0 : ad116.block ≠ gb117 := Nat.ne_of_lt (Nat.lt_of_lt_of_le (aP85) GW117.out); have hn118_1 : ad116.block ≠ gb117 := Nat.ne_of_lt (Nat.lt_of_lt_of_le (aP85) GW117.out); have hn118_2 : ad116.block ≠ gb117 := Nat.ne_of_lt (Nat.lt_of_lt_of_le (aP85) GW117.out); replace hx118_0 := (HB.out.cell (World.block_lt_of_cell? w _ hx118_0)).trans hx118_0; replace hx118_1 := (HB.out.cell (World.block_lt_of_cell? w _ hx118_1)).trans hx118_1; replace hx118_2 := (HB.out.cell (World.block_lt_of_cell? w _ hx118_2)).trans hx118_2; replace hx118_0 := (cell_far (p := ⟨gb117, 0, none⟩) (aP86) (.int .i64 ((rd_T53 l0 x9_1).f0))).trans hx118_0; replace hx118_1 := (cell_far (p := ⟨gb117, 0, none⟩) (aP86) (.int .i64 ((rd_T53 l0 x9_1).f0))).trans hx118_1; replace hx118_2 := (cell_far (p := ⟨gb117, 0, none⟩) (aP86) (.int .i64 ((rd_T53 l0 x9_1).f0))).trans hx118_2; replace hx118_0 := (cell_far (p := ⟨gb117, 1, none⟩) (aP87) (.int .i64 ((rd_T53 l0 x9_1).f1))).trans hx118_0; replace hx118_1 := (cell_far (p := ⟨gb117, 1, none⟩) (aP87) (.int .i64 ((rd_T53 l0 x9_1).f1))).trans hx118_1; replace hx118_2 := (cell_far (p := ⟨gb117, 1, none⟩) (aP87) (.int .i64 ((rd_T53 l0 x9_1).f1))).trans hx118_2; replace hx118_0 := (cell_far (p := ⟨gb117, 2, none⟩) (aP88) (.string ((rd_T53 l0 x9_1).f2))).trans hx118_0; replace hx118_1 := (cell_far (p := ⟨gb117, 2, none⟩) (aP88) (.string ((rd_T53 l0 x9_1).f2))).trans hx118_1; replace hx118_2 := (cell_far (p := ⟨gb117, 2, none⟩) (aP88) (.string ((rd_T53 l0 x9_1).f2))).trans hx118_2; (try have hy118_0 := fun (n_ : Nat) => (show (((((w14.drewN n_).setCell ⟨gb117, 0, none⟩ (.int .i64 ((rd_T53 l0 x9_1).f0))).setCell ⟨gb117, 1, none⟩ (.int .i64 ((rd_T53 l0 x9_1).f1))).setCell ⟨gb117, 2, none⟩ (.string ((rd_T53 l0 x9_1).f2)))).cell? _ = some _ from hx118_0)); (try have hy118_1 := fun (n_ : Nat) => (show (((((w14.drewN n_).setCell ⟨gb117, 0, none⟩ (.int .i64 ((rd_T53 l0 x9_1).f0))).setCell ⟨gb117, 1, none⟩ (.int .i64 ((rd_T53 l0 x9_1).f1))).setCell ⟨gb117, 2, none⟩ (.string ((rd_T53 l0 x9_1).f2)))).cell? _ = some _ from hx118_1)); (try have hy118_2 := fun (n_ : Nat) => (show (((((w14.drewN n_).setCell ⟨gb117, 0, none⟩ (.int .i64 ((rd_T53 l0 x9_1).f0))).setCell ⟨gb117, 1, none⟩ (.int .i64 ((rd_T53 l0 x9_1).f1))).setCell ⟨gb117, 2, none⟩ (.string ((rd_T53 l0 x9_1).f2)))).cell? _ = some _ from hx118_2)); clear hn118_0; clear hn118_1; clear hn118_2; replace p118 := eq_true p118; replace q118 := eq_true q118)); try go_wp2_with (first | ((with_reducible refine gate_dst (N := 5) rfl ?_); refine box_event ?hg (N := 5) ?hd (cs := #[.int .i64 0, .int .i64 0, .string (⟨#[]⟩ : ByteArray)]) (t := 53) ?hr ?_; (case hd => rfl); (case hg => rfl); (case hr => first | (go_simp; done) | (go_simp; rfl)); intro gb117 hg w14 hbox hb; have n0_ := aMk (below_step (aP80) hb); have n1_ := aMk (hbox); have n2_ := aMk ((aP81 : w.heap.size ≤ gb117)); have n3_ := aMk ((aP81 : w.heap.size ≤ gb117)); clear HB; have HB := n0_; have BK117 := n1_; have GW117 := n2_; have GE117 := n3_; clear n0_ n1_ n2_ n3_; clear hb hbox hg; have hcz15_0 : w14.cell? ⟨gb117, 0, none⟩ = some (.int .i64 0) := (blk_cell BK117.out 0).trans rfl; have hcz15_1 : w14.cell? ⟨gb117, 1, none⟩ = some (.int .i64 0) := (blk_cell BK117.out 1).trans rfl; have hcz15_2 : w14.cell? ⟨gb117, 2, none⟩ = some (.string (⟨#[]⟩ : ByteArray)) := (blk_cell BK117.out 2).trans rfl; have hfz15_0 := blk_frozen BK117.out 0; have hfz15_1 := blk_frozen BK117.out 1; have hfz15_2 := blk_frozen BK117.out 2; have p118 : 0 ≤ ((ji6) : Int) := of_decide_eq_true (aP75); have q118 : (ji6) < (l0.length : Int) := of_decide_eq_true (aP75); obtain ⟨ad118, e118, hx118_0, hx118_1, hx118_2⟩ := at_T53 HR0.out (ji6) p118 q118; obtain rfl : ad116 = ad118 := (by injection e118); have hn118_0 : ad116.block ≠ gb117 := Nat.ne_of_lt (Nat.lt_of_lt_of_le (aP85) GW117.out); have hn118_1 : ad116.block ≠ gb117 := Nat.ne_of_lt (Nat.lt_of_lt_of_le (aP85) GW117.out); have hn118_2 : ad116.block ≠ gb117 := Nat.ne_of_lt (Nat.lt_of_lt_of_le (aP85) GW117.out); replace hx118_0 := (HB.out.cell (World.block_lt_of_cell? w _ hx118_0)).trans hx118_0; replace hx118_1 := (HB.out.cell (World.block_lt_of_cell? w _ hx118_1)).trans hx118_1; replace hx118_2 := (HB.out.cell (World.block_lt_of_cell? w _ hx118_2)).trans hx118_2; replace hx118_0 := (cell_far (p := ⟨gb117, 0, none⟩) (aP86) (.int .i64 ((rd_T53 l0 x9_1).f0))).trans hx118_0; replace hx118_1 := (cell_far (p := ⟨gb117, 0, none⟩) (aP86) (.int .i64 ((rd_T53 l0 x9_1).f0))).trans hx118_1; replace hx118_2 := (cell_far (p := ⟨gb117, 0, none⟩) (aP86) (.int .i64 ((rd_T53 l0 x9_1).f0))).trans hx118_2; replace hx118_0 := (cell_far (p := ⟨gb117, 1, none⟩) (aP87) (.int .i64 ((rd_T53 l0 x9_1).f1))).trans hx118_0; replace hx118_1 := (cell_far (p := ⟨gb117, 1, none⟩) (aP87) (.int .i64 ((rd_T53 l0 x9_1).f1))).trans hx118_1; replace hx118_2 := (cell_far (p := ⟨gb117, 1, none⟩) (aP87) (.int .i64 ((rd_T53 l0 x9_1).f1))).trans hx118_2; replace hx118_0 := (cell_far (p := ⟨gb117, 2, none⟩) (aP88) (.string ((rd_T53 l0 x9_1).f2))).trans hx118_0; replace hx118_1 := (cell_far (p := ⟨gb117, 2, none⟩) (aP88) (.string ((rd_T53 l0 x9_1).f2))).trans hx118_1; replace hx118_2 := (cell_far (p := ⟨gb117, 2, none⟩) (aP88) (.string ((rd_T53 l0 x9_1).f2))).trans hx118_2; (try have hy118_0 := fun (n_ : Nat) => (show (((((w14.drewN n_).setCell ⟨gb117, 0, none⟩ (.int .i64 ((rd_T53 l0 x9_1).f0))).setCell ⟨gb117, 1, none⟩ (.int .i64 ((rd_T53 l0 x9_1).f1))).setCell ⟨gb117, 2, none⟩ (.string ((rd_T53 l0 x9_1).f2)))).cell? _ = some _ from hx118_0)); (try have hy118_1 := fun (n_ : Nat) => (show (((((w14.drewN n_).setCell ⟨gb117, 0, none⟩ (.int .i64 ((rd_T53 l0 x9_1).f0))).setCell ⟨gb117, 1, none⟩ (.int .i64 ((rd_T53 l0 x9_1).f1))).setCell ⟨gb117, 2, none⟩ (.string ((rd_T53 l0 x9_1).f2)))).cell? _ = some _ from hx118_1)); (try have hy118_2 := fun (n_ : Nat) => (show (((((w14.drewN n_).setCell ⟨gb117, 0, none⟩ (.int .i64 ((rd_T53 l0 x9_1).f0))).setCell ⟨gb117, 1, none⟩ (.int .i64 ((rd_T53 l0 x9_1).f1))).setCell ⟨gb117, 2, none⟩ (.string ((rd_T53 l0 x9_1).f2)))).cell? _ = some _ from hx118_2)); clear hn118_0; clear hn118_1; clear hn118_2; replace p118 := eq_true p118; replace q118 := eq_true q118)))
            exact aP26
           ·rw [if_neg c13] at H
            have c13b0 : (((rd_T53 l0 x9_1).f0) == 5) = false := beF c13
            have c13b1 : (((rd_T53 l0 x9_1).f0) != 5) = true := bnT c13
            replace H := Option.bind_eq_some_iff.mp H
            obtain ⟨t119, A160, H⟩ := H
            replace H : (if t119 = true then (affix_Check.l0 k1 l0 (wrap64 (x3_1 + (((rd_T53 l0 x9_1).f2).size : Int))) l0 (l0.length : Int) (wrap64 (x9_1 + 1))) else (some 131)) = some r := H
            have A16 := aMk A160
            clear A160
            by_cases c17 : t119 = true
            ·subst c17
             have H1 : (affix_Check.l0 k1 l0 (wrap64 (x3_1 + (((rd_T53 l0 x9_1).f2).size : Int))) l0 (l0.length : Int) (wrap64 (x9_1 + 1))) = some r := aP79
             clear H
             have H := H1
             clear H1
             have H' := aMk H
             clear H
             have p116 : 0 ≤ (x9_1 : Int) := of_decide_eq_true (aP75)
             have q116 : x9_1 < (l0.length : Int) := of_decide_eq_true (aP75)
             obtain ⟨ad116, e116, hx116_0, hx116_1, hx116_2⟩ := at_T53 HR0.out x9_1 p116 q116
             cases e116
             replace hx116_0 := (HB.out.cell (World.block_lt_of_cell? w _ hx116_0)).trans hx116_0
             replace hx116_1 := (HB.out.cell (World.block_lt_of_cell? w _ hx116_1)).trans hx116_1
             replace hx116_2 := (HB.out.cell (World.block_lt_of_cell? w _ hx116_2)).trans hx116_2
             replace p116 := eq_true p116
             replace q116 := eq_true q116
             go_wp2_with (first | ((with_reducible refine gate_dst (N := 5) rfl ?_); refine box_event ?hg (N := 5) ?hd (cs := #[.int .i64 0, .int .i64 0, .string (⟨#[]⟩ : ByteArray)]) (t := 53) ?hr ?_; (case hd => rfl); (case hg => rfl); (case hr => first | (go_simp; done) | (go_simp; rfl)); intro gb117 hg w18 hbox hb; have n0_ := aMk (below_step (aP80) hb); have n1_ := aMk (hbox); have n2_ := aMk ((aP81 : w.heap.size ≤ gb117)); have n3_ := aMk ((aP81 : w.heap.size ≤ gb117)); clear HB; have HB := n0_; have BK117 := n1_; have GW117 := n2_; have GE117 := n3_; clear n0_ n1_ n2_ n3_; clear hb hbox hg; have hcz19_0 : w18.cell? ⟨gb117, 0, none⟩ = some (.int .i64 0) := (blk_cell BK117.out 0).trans rfl; have hcz19_1 : w18.cell? ⟨gb117, 1, none⟩ = some (.int .i64 0) := (blk_cell BK117.out 1).trans rfl; have hcz19_2 : w18.cell? ⟨gb117, 2, none⟩ = some (.string (⟨#[]⟩ : ByteArray)) := (blk_cell BK117.out 2).trans rfl; have hfz19_0 := blk_frozen BK117.out 0; have hfz19_1 := blk_frozen BK117.out 1; have hfz19_2 := blk_frozen BK117.out 2; have p118 : 0 ≤ ((ji6) : Int) := of_decide_eq_true (aP75); have q118 : (ji6) < (l0.length : Int) := of_decide_eq_true (aP75); obtain ⟨ad118, e118, hx118_0, hx118_1, hx118_2⟩ := at_T53 HR0.out (ji6) p118 q118; obtain rfl : ad116 = ad118 := (by injection e118); have hn118_0 : ad116.block ≠ gb117 := Nat.ne_of_lt (Nat.lt_of_lt_of_le (aP85) GW117.out); have hn118_1 : ad116.block ≠ gb117 := Nat.ne_of_lt (Nat.lt_of_lt_of_le (aP85) GW117.out); have hn118_2 : ad116.block ≠ gb117 := Nat.ne_of_lt (Nat.lt_of_lt_of_le (aP85) GW117.out); replace hx118_0 := (HB.out.cell (World.block_lt_of_cell? w _ hx118_0)).trans hx118_0; replace hx118_1 := (HB.out.cell (World.block_lt_of_cell? w _ hx118_1)).trans hx118_1; replace hx118_2 := (HB.out.cell (World.block_lt_of_cell? w _ hx118_2)).trans hx118_2; replace hx118_0 := (cell_far (p := ⟨gb117, 0, none⟩) (aP86) (.int .i64 ((rd_T53 l0 x9_1).f0))).trans hx118_0; replace hx118_1 := (cell_far (p := ⟨gb117, 0, none⟩) (aP86) (.int .i64 ((rd_T53 l0 x9_1).f0))).trans hx118_1; replace hx118_2 := (cell_far (p := ⟨gb117, 0, none⟩) (aP86) (.int .i64 ((rd_T53 l0 x9_1).f0))).trans hx118_2; replace hx118_0 := (cell_far (p := ⟨gb117, 1, none⟩) (aP87) (.int .i64 ((rd_T53 l0 x9_1).f1))).trans hx118_0; replace hx118_1 := (cell_far (p := ⟨gb117, 1, none⟩) (aP87) (.int .i64 ((rd_T53 l0 x9_1).f1))).trans hx118_1; replace hx118_2 := (cell_far (p := ⟨gb117, 1, none⟩) (aP87) (.int .i64 ((rd_T53 l0 x9_1).f1))).trans hx118_2; replace hx118_0 := (cell_far (p := ⟨gb117, 2, none⟩) (aP88) (.string ((rd_T53 l0 x9_1).f2))).trans hx118_0; replace hx118_1 := (cell_far (p := ⟨gb117, 2, none⟩) (aP88) (.string ((rd_T53 l0 x9_1).f2))).trans hx118_1; replace hx118_2 := (cell_far (p := ⟨gb117, 2, none⟩) (aP88) (.string ((rd_T53 l0 x9_1).f2))).trans hx118_2; (try have hy118_0 := fun (n_ : Nat) => (show (((((w18.drewN n_).setCell ⟨gb117, 0, none⟩ (.int .i64 ((rd_T53 l0 x9_1).f0))).setCell ⟨gb117, 1, none⟩ (.int .i64 ((rd_T53 l0 x9_1).f1))).setCell ⟨gb117, 2, none⟩ (.string ((rd_T53 l0 x9_1).f2)))).cell? _ = some _ from hx118_0)); (try have hy118_1 := fun (n_ : Nat) => (show (((((w18.drewN n_).setCell ⟨gb117, 0, none⟩ (.int .i64 ((rd_T53 l0 x9_1).f0))).setCell ⟨gb117, 1, none⟩ (.int .i64 ((rd_T53 l0 x9_1).f1))).setCell ⟨gb117, 2, none⟩ (.string ((rd_T53 l0 x9_1).f2)))).cell? _ = some _ from hx118_1)); (try have hy118_2 := fun (n_ : Nat) => (show (((((w18.drewN n_).setCell ⟨gb117, 0, none⟩ (.int .i64 ((rd_T53 l0 x9_1).f0))).setCell ⟨gb117, 1, none⟩ (.int .i64 ((rd_T53 l0 x9_1).f1))).setCell ⟨gb117, 2, none⟩ (.string ((rd_T53 l0 x9_1).f2)))).cell? _ = some _ from hx118_2)); clear hn118_0; clear hn118_1; clear hn118_2; replace p118 := eq_true p118; replace q118 := eq_true q118) | (go_at_call 61; (with_reducible refine (affix_single.calls k1 ((rd_T53 l0 x9_1).f0) ((rd_T53 l0 x9_1).f1) ((rd_T53 l0 x9_1).f2) true _ A16.out).mono ?_); rintro e w20 ⟨rfl, hb⟩; have n0_ := aMk (blk_below (g := gb117) (o := .cells #[.int .i64 ((rd_T53 l0 x9_1).f0), .int .i64 ((rd_T53 l0 x9_1).f1), .string ((rd_T53 l0 x9_1).f2)] 53 (0, 0)) (aP89) hb); have n1_ := aMk (below_step (aP90) hb); clear BK117; clear HB; have BK117 := n0_; have HB := n1_; clear n0_ n1_; (try clear hb); (try clear hb2); (try clear hk); (try clear hi); have hcz21_0 : w20.cell? ⟨gb117, 0, none⟩ = some (.int .i64 ((rd_T53 l0 x9_1).f0)) := (blk_cell BK117.out 0).trans rfl; have hcz21_1 : w20.cell? ⟨gb117, 1, none⟩ = some (.int .i64 ((rd_T53 l0 x9_1).f1)) := (blk_cell BK117.out 1).trans rfl; have hcz21_2 : w20.cell? ⟨gb117, 2, none⟩ = some (.string ((rd_T53 l0 x9_1).f2)) := (blk_cell BK117.out 2).trans rfl; have hfz21_0 := blk_frozen BK117.out 0; have hfz21_1 := blk_frozen BK117.out 1; have hfz21_2 := blk_frozen BK117.out 2))
             repeat (go_quiet (first | ((with_reducible refine gate_dst (N := 5) rfl ?_); refine box_event ?hg (N := 5) ?hd (cs := #[.int .i64 0, .int .i64 0, .string (⟨#[]⟩ : ByteArray)]) (t := 53) ?hr ?_; (case hd => rfl); (case hg => rfl); (case hr => first | (go_simp; done) | (go_simp; rfl)); intro gb117 hg w18 hbox hb; have n0_ := aMk (below_step (aP80) hb); have n1_ := aMk (hbox); have n2_ := aMk ((aP81 : w.heap.size ≤ gb117)); have n3_ := aMk ((aP81 : w.heap.size ≤ gb117)); clear HB; have HB := n0_; have BK117 := n1_; have GW117 := n2_; have GE117 := n3_; clear n0_ n1_ n2_ n3_; clear hb hbox hg; have hcz19_0 : w18.cell? ⟨gb117, 0, none⟩ = some (.int .i64 0) := (blk_cell BK117.out 0).trans rfl; have hcz19_1 : w18.cell? ⟨gb117, 1, none⟩ = some (.int .i64 0) := (blk_cell BK117.out 1).trans rfl; have hcz19_2 : w18.cell? ⟨gb117, 2, none⟩ = some (.string (⟨#[]⟩ : ByteArray)) := (blk_cell BK117.out 2).trans rfl; have hfz19_0 := blk_frozen BK117.out 0; have hfz19_1 := blk_frozen BK117.out 1; have hfz19_2 := blk_frozen BK117.out 2; have p118 : 0 ≤ ((ji6) : Int) := of_decide_eq_true (aP75); have q118 : (ji6) < (l0.length : Int) := of_decide_eq_true (aP75); obtain ⟨ad118, e118, hx118_0, hx118_1, hx118_2⟩ := at_T53 HR0.out (ji6) p118 q118; obtain rfl : ad116 = ad118 := (by injection e118); have hn118_0 : ad116.block ≠ gb117 := Nat.ne_of_lt (Nat.lt_of_lt_of_le (aP85) GW117.out); have hn118_1 : ad116.block ≠ gb117 := Nat.ne_of_lt (Nat.lt_of_lt_of_le (aP85) GW117.out); have hn118_2 : ad116.block ≠ gb117 := Nat.ne_of_lt (Nat.lt_of_lt_of_le (aP85) GW117.out); replace hx118_0 := (HB.out.cell (World.block_lt_of_cell? w _ hx118_0)).trans hx118_0; replace hx118_1 := (HB.out.cell (World.block_lt_of_cell? w _ hx118_1)).trans hx118_1; replace hx118_2 := (HB.out.cell (World.block_lt_of_cell? w _ hx118_2)).trans hx118_2; replace hx118_0 := (cell_far (p := ⟨gb117, 0, none⟩) (aP86) (.int .i64 ((rd_T53 l0 x9_1).f0))).trans hx118_0; replace hx118_1 := (cell_far (p := ⟨gb117, 0, none⟩) (aP86) (.int .i64 ((rd_T53 l0 x9_1).f0))).trans hx118_1; replace hx118_2 := (cell_far (p := ⟨gb117, 0, none⟩) (aP86) (.int .i64 ((rd_T53 l0 x9_1).f0))).trans hx118_2; replace hx118_0 := (cell_far (p := ⟨gb117, 1, none⟩) (aP87) (.int .i64 ((rd_T53 l0 x9_1).f1))).trans hx118_0; replace hx118_1 := (cell_far (p := ⟨gb117, 1, none⟩) (aP87) (.int .i64 ((rd_T53 l0 x9_1).f1))).trans hx118_1; replace hx118_2 := (cell_far (p := ⟨gb117, 1, none⟩) (aP87) (.int .i64 ((rd_T53 l0 x9_1).f1))).trans hx118_2; replace hx118_0 := (cell_far (p := ⟨gb117, 2, none⟩) (aP88) (.string ((rd_T53 l0 x9_1).f2))).trans hx118_0; replace hx118_1 := (cell_far (p := ⟨gb117, 2, none⟩) (aP88) (.string ((rd_T53 l0 x9_1).f2))).trans hx118_1; replace hx118_2 := (cell_far (p := ⟨gb117, 2, none⟩) (aP88) (.string ((rd_T53 l0 x9_1).f2))).trans hx118_2; (try have hy118_0 := fun (n_ : Nat) => (show (((((w18.drewN n_).setCell ⟨gb117, 0, none⟩ (.int .i64 ((rd_T53 l0 x9_1).f0))).setCell ⟨gb117, 1, none⟩ (.int .i64 ((rd_T53 l0 x9_1).f1))).setCell ⟨gb117, 2, none⟩ (.string ((rd_T53 l0 x9_1).f2)))).cell? _ = some _ from hx118_0)); (try have hy118_1 := fun (n_ : Nat) => (show (((((w18.drewN n_).setCell ⟨gb117, 0, none⟩ (.int .i64 ((rd_T53 l0 x9_1).f0))).setCell ⟨gb117, 1, none⟩ (.int .i64 ((rd_T53 l0 x9_1).f1))).setCell ⟨gb117, 2, none⟩ (.string ((rd_T53 l0 x9_1).f2)))).cell? _ = some _ from hx118_1)); (try have hy118_2 := fun (n_ : Nat) => (show (((((w18.drewN n_).setCell ⟨gb117, 0, none⟩ (.int .i64 ((rd_T53 l0 x9_1).f0))).setCell ⟨gb117, 1, none⟩ (.int .i64 ((rd_T53 l0 x9_1).f1))).setCell ⟨gb117, 2, none⟩ (.string ((rd_T53 l0 x9_1).f2)))).cell? _ = some _ from hx118_2)); clear hn118_0; clear hn118_1; clear hn118_2; replace p118 := eq_true p118; replace q118 := eq_true q118) | (go_at_call 61; (with_reducible refine (affix_single.calls k1 ((rd_T53 l0 x9_1).f0) ((rd_T53 l0 x9_1).f1) ((rd_T53 l0 x9_1).f2) true _ A16.out).mono ?_); rintro e w20 ⟨rfl, hb⟩; have n0_ := aMk (blk_below (g := gb117) (o := .cells #[.int .i64 ((rd_T53 l0 x9_1).f0), .int .i64 ((rd_T53 l0 x9_1).f1), .string ((rd_T53 l0 x9_1).f2)] 53 (0, 0)) (aP89) hb); have n1_ := aMk (below_step (aP90) hb); clear BK117; clear HB; have BK117 := n0_; have HB := n1_; clear n0_ n1_; (try clear hb); (try clear hb2); (try clear hk); (try clear hi); have hcz21_0 : w20.cell? ⟨gb117, 0, none⟩ = some (.int .i64 ((rd_T53 l0 x9_1).f0)) := (blk_cell BK117.out 0).trans rfl; have hcz21_1 : w20.cell? ⟨gb117, 1, none⟩ = some (.int .i64 ((rd_T53 l0 x9_1).f1)) := (blk_cell BK117.out 1).trans rfl; have hcz21_2 : w20.cell? ⟨gb117, 2, none⟩ = some (.string ((rd_T53 l0 x9_1).f2)) := (blk_cell BK117.out 2).trans rfl; have hfz21_0 := blk_frozen BK117.out 0; have hfz21_1 := blk_frozen BK117.out 1; have hfz21_2 := blk_frozen BK117.out 2)); try go_wp2_with (first | ((with_reducible refine gate_dst (N := 5) rfl ?_); refine box_event ?hg (N := 5) ?hd (cs := #[.int .i64 0, .int .i64 0, .string (⟨#[]⟩ : ByteArray)]) (t := 53) ?hr ?_; (case hd => rfl); (case hg => rfl); (case hr => first | (go_simp; done) | (go_simp; rfl)); intro gb117 hg w18 hbox hb; have n0_ := aMk (below_step (aP80) hb); have n1_ := aMk (hbox); have n2_ := aMk ((aP81 : w.heap.size ≤ gb117)); have n3_ := aMk ((aP81 : w.heap.size ≤ gb117)); clear HB; have HB := n0_; have BK117 := n1_; have GW117 := n2_; have GE117 := n3_; clear n0_ n1_ n2_ n3_; clear hb hbox hg; have hcz19_0 : w18.cell? ⟨gb117, 0, none⟩ = some (.int .i64 0) := (blk_cell BK117.out 0).trans rfl; have hcz19_1 : w18.cell? ⟨gb117, 1, none⟩ = some (.int .i64 0) := (blk_cell BK117.out 1).trans rfl; have hcz19_2 : w18.cell? ⟨gb117, 2, none⟩ = some (.string (⟨#[]⟩ : ByteArray)) := (blk_cell BK117.out 2).trans rfl; have hfz19_0 := blk_frozen BK117.out 0; have hfz19_1 := blk_frozen BK117.out 1; have hfz19_2 := blk_frozen BK117.out 2; have p118 : 0 ≤ ((ji6) : Int) := of_decide_eq_true (aP75); have q118 : (ji6) < (l0.length : Int) := of_decide_eq_true (aP75); obtain ⟨ad118, e118, hx118_0, hx118_1, hx118_2⟩ := at_T53 HR0.out (ji6) p118 q118; obtain rfl : ad116 = ad118 := (by injection e118); have hn118_0 : ad116.block ≠ gb117 := Nat.ne_of_lt (Nat.lt_of_lt_of_le (aP85) GW117.out); have hn118_1 : ad116.block ≠ gb117 := Nat.ne_of_lt (Nat.lt_of_lt_of_le (aP85) GW117.out); have hn118_2 : ad116.block ≠ gb117 := Nat.ne_of_lt (Nat.lt_of_lt_of_le (aP85) GW117.out); replace hx118_0 := (HB.out.cell (World.block_lt_of_cell? w _ hx118_0)).trans hx118_0; replace hx118_1 := (HB.out.cell (World.block_lt_of_cell? w _ hx118_1)).trans hx118_1; replace hx118_2 := (HB.out.cell (World.block_lt_of_cell? w _ hx118_2)).trans hx118_2; replace hx118_0 := (cell_far (p := ⟨gb117, 0, none⟩) (aP86) (.int .i64 ((rd_T53 l0 x9_1).f0))).trans hx118_0; replace hx118_1 := (cell_far (p := ⟨gb117, 0, none⟩) (aP86) (.int .i64 ((rd_T53 l0 x9_1).f0))).trans hx118_1; replace hx118_2 := (cell_far (p := ⟨gb117, 0, none⟩) (aP86) (.int .i64 ((rd_T53 l0 x9_1).f0))).trans hx118_2; replace hx118_0 := (cell_far (p := ⟨gb117, 1, none⟩) (aP87) (.int .i64 ((rd_T53 l0 x9_1).f1))).trans hx118_0; replace hx118_1 := (cell_far (p := ⟨gb117, 1, none⟩) (aP87) (.int .i64 ((rd_T53 l0 x9_1).f1))).trans hx118_1; replace hx118_2 := (cell_far (p := ⟨gb117, 1, none⟩) (aP87) (.int .i64 ((rd_T53 l0 x9_1).f1))).trans hx118_2; replace hx118_0 := (cell_far (p := ⟨gb117, 2, none⟩) (aP88) (.string ((rd_T53 l0 x9_1).f2))).trans hx118_0; replace hx118_1 := (cell_far (p := ⟨gb117, 2, none⟩) (aP88) (.string ((rd_T53 l0 x9_1).f2))).trans hx118_1; replace hx118_2 := (cell_far (p := ⟨gb117, 2, none⟩) (aP88) (.string ((rd_T53 l0 x9_1).f2))).trans hx118_2; (try have hy118_0 := fun (n_ : Nat) => (show (((((w18.drewN n_).setCell ⟨gb117, 0, none⟩ (.int .i64 ((rd_T53 l0 x9_1).f0))).setCell ⟨gb117, 1, none⟩ (.int .i64 ((rd_T53 l0 x9_1).f1))).setCell ⟨gb117, 2, none⟩ (.string ((rd_T53 l0 x9_1).f2)))).cell? _ = some _ from hx118_0)); (try have hy118_1 := fun (n_ : Nat) => (show (((((w18.drewN n_).setCell ⟨gb117, 0, none⟩ (.int .i64 ((rd_T53 l0 x9_1).f0))).setCell ⟨gb117, 1, none⟩ (.int .i64 ((rd_T53 l0 x9_1).f1))).setCell ⟨gb117, 2, none⟩ (.string ((rd_T53 l0 x9_1).f2)))).cell? _ = some _ from hx118_1)); (try have hy118_2 := fun (n_ : Nat) => (show (((((w18.drewN n_).setCell ⟨gb117, 0, none⟩ (.int .i64 ((rd_T53 l0 x9_1).f0))).setCell ⟨gb117, 1, none⟩ (.int .i64 ((rd_T53 l0 x9_1).f1))).setCell ⟨gb117, 2, none⟩ (.string ((rd_T53 l0 x9_1).f2)))).cell? _ = some _ from hx118_2)); clear hn118_0; clear hn118_1; clear hn118_2; replace p118 := eq_true p118; replace q118 := eq_true q118) | (go_at_call 61; (with_reducible refine (affix_single.calls k1 ((rd_T53 l0 x9_1).f0) ((rd_T53 l0 x9_1).f1) ((rd_T53 l0 x9_1).f2) true _ A16.out).mono ?_); rintro e w20 ⟨rfl, hb⟩; have n0_ := aMk (blk_below (g := gb117) (o := .cells #[.int .i64 ((rd_T53 l0 x9_1).f0), .int .i64 ((rd_T53 l0 x9_1).f1), .string ((rd_T53 l0 x9_1).f2)] 53 (0, 0)) (aP89) hb); have n1_ := aMk (below_step (aP90) hb); clear BK117; clear HB; have BK117 := n0_; have HB := n1_; clear n0_ n1_; (try clear hb); (try clear hb2); (try clear hk); (try clear hi); have hcz21_0 : w20.cell? ⟨gb117, 0, none⟩ = some (.int .i64 ((rd_T53 l0 x9_1).f0)) := (blk_cell BK117.out 0).trans rfl; have hcz21_1 : w20.cell? ⟨gb117, 1, none⟩ = some (.int .i64 ((rd_T53 l0 x9_1).f1)) := (blk_cell BK117.out 1).trans rfl; have hcz21_2 : w20.cell? ⟨gb117, 2, none⟩ = some (.string ((rd_T53 l0 x9_1).f2)) := (blk_cell BK117.out 2).trans rfl; have hfz21_0 := blk_frozen BK117.out 0; have hfz21_1 := blk_frozen BK117.out 1; have hfz21_2 := blk_frozen BK117.out 2)))
             exact aP25
            ·replace c17 := Bool.eq_false_iff.mpr c17
             subst c17
             have H1 : (some 131) = some r := aP74
             clear H
             have H := H1
             clear H1
             obtain rfl := Option.some.inj H
             have p116 : 0 ≤ (x9_1 : Int) := of_decide_eq_true (aP75)
             have q116 : x9_1 < (l0.length : Int) := of_decide_eq_true (aP75)
             obtain ⟨ad116, e116, hx116_0, hx116_1, hx116_2⟩ := at_T53 HR0.out x9_1 p116 q116
             cases e116
             replace hx116_0 := (HB.out.cell (World.block_lt_of_cell? w _ hx116_0)).trans hx116_0
             replace hx116_1 := (HB.out.cell (World.block_lt_of_cell? w _ hx116_1)).trans hx116_1
             replace hx116_2 := (HB.out.cell (World.block_lt_of_cell? w _ hx116_2)).trans hx116_2
             replace p116 := eq_true p116
             replace q116 := eq_true q116
             go_wp2_with (first | ((with_reducible refine gate_dst (N := 5) rfl ?_); refine box_event ?hg (N := 5) ?hd (cs := #[.int .i64 0, .int .i64 0, .string (⟨#[]⟩ : ByteArray)]) (t := 53) ?hr ?_; (case hd => rfl); (case hg => rfl); (case hr => first | (go_simp; done) | (go_simp; rfl)); intro gb117 hg w22 hbox hb; have n0_ := aMk (below_step (aP80) hb); have n1_ := aMk (hbox); have n2_ := aMk ((aP81 : w.heap.size ≤ gb117)); have n3_ := aMk ((aP81 : w.heap.size ≤ gb117)); clear HB; have HB := n0_; have BK117 := n1_; have GW117 := n2_; have GE117 := n3_; clear n0_ n1_ n2_ n3_; clear hb hbox hg; have hcz23_0 : w22.cell? ⟨gb117, 0, none⟩ = some (.int .i64 0) := (blk_cell BK117.out 0).trans rfl; have hcz23_1 : w22.cell? ⟨gb117, 1, none⟩ = some (.int .i64 0) := (blk_cell BK117.out 1).trans rfl; have hcz23_2 : w22.cell? ⟨gb117, 2, none⟩ = some (.string (⟨#[]⟩ : ByteArray)) := (blk_cell BK117.out 2).trans rfl; have hfz23_0 := blk_frozen BK117.out 0; have hfz23_1 := blk_frozen BK117.out 1; have hfz23_2 := blk_frozen BK117.out 2; have p118 : 0 ≤ ((ji6) : Int) := of_decide_eq_true (aP75); have q118 : (ji6) < (l0.length : Int) := of_decide_eq_true (aP75); obtain ⟨ad118, e118, hx118_0, hx118_1, hx118_2⟩ := at_T53 HR0.out (ji6) p118 q118; obtain rfl : ad116 = ad118 := (by injection e118); have hn118_0 : ad116.block ≠ gb117 := Nat.ne_of_lt (Nat.lt_of_lt_of_le (aP85) GW117.out); have hn118_1 : ad116.block ≠ gb117 := Nat.ne_of_lt (Nat.lt_of_lt_of_le (aP85) GW117.out); have hn118_2 : ad116.block ≠ gb117 := Nat.ne_of_lt (Nat.lt_of_lt_of_le (aP85) GW117.out); replace hx118_0 := (HB.out.cell (World.block_lt_of_cell? w _ hx118_0)).trans hx118_0; replace hx118_1 := (HB.out.cell (World.block_lt_of_cell? w _ hx118_1)).trans hx118_1; replace hx118_2 := (HB.out.cell (World.block_lt_of_cell? w _ hx118_2)).trans hx118_2; replace hx118_0 := (cell_far (p := ⟨gb117, 0, none⟩) (aP86) (.int .i64 ((rd_T53 l0 x9_1).f0))).trans hx118_0; replace hx118_1 := (cell_far (p := ⟨gb117, 0, none⟩) (aP86) (.int .i64 ((rd_T53 l0 x9_1).f0))).trans hx118_1; replace hx118_2 := (cell_far (p := ⟨gb117, 0, none⟩) (aP86) (.int .i64 ((rd_T53 l0 x9_1).f0))).trans hx118_2; replace hx118_0 := (cell_far (p := ⟨gb117, 1, none⟩) (aP87) (.int .i64 ((rd_T53 l0 x9_1).f1))).trans hx118_0; replace hx118_1 := (cell_far (p := ⟨gb117, 1, none⟩) (aP87) (.int .i64 ((rd_T53 l0 x9_1).f1))).trans hx118_1; replace hx118_2 := (cell_far (p := ⟨gb117, 1, none⟩) (aP87) (.int .i64 ((rd_T53 l0 x9_1).f1))).trans hx118_2; replace hx118_0 := (cell_far (p := ⟨gb117, 2, none⟩) (aP88) (.string ((rd_T53 l0 x9_1).f2))).trans hx118_0; replace hx118_1 := (cell_far (p := ⟨gb117, 2, none⟩) (aP88) (.string ((rd_T53 l0 x9_1).f2))).trans hx118_1; replace hx118_2 := (cell_far (p := ⟨gb117, 2, none⟩) (aP88) (.string ((rd_T53 l0 x9_1).f2))).trans hx118_2; (try have hy118_0 := fun (n_ : Nat) => (show (((((w22.drewN n_).setCell ⟨gb117, 0, none⟩ (.int .i64 ((rd_T53 l0 x9_1).f0))).setCell ⟨gb117, 1, none⟩ (.int .i64 ((rd_T53 l0 x9_1).f1))).setCell ⟨gb117, 2, none⟩ (.string ((rd_T53 l0 x9_1).f2)))).cell? _ = some _ from hx118_0)); (try have hy118_1 := fun (n_ : Nat) => (show (((((w22.drewN n_).setCell ⟨gb117, 0, none⟩ (.int .i64 ((rd_T53 l0 x9_1).f0))).setCell ⟨gb117, 1, none⟩ (.int .i64 ((rd_T53 l0 x9_1).f1))).setCell ⟨gb117, 2, none⟩ (.string ((rd_T53 l0 x9_1).f2)))).cell? _ = some _ from hx118_1)); (try have hy118_2 := fun (n_ : Nat) => (show (((((w22.drewN n_).setCell ⟨gb117, 0, none⟩ (.int .i64 ((rd_T53 l0 x9_1).f0))).setCell ⟨gb117, 1, none⟩ (.int .i64 ((rd_T53 l0 x9_1).f1))).setCell ⟨gb117, 2, none⟩ (.string ((rd_T53 l0 x9_1).f2)))).cell? _ = some _ from hx118_2)); clear hn118_0; clear hn118_1; clear hn118_2; replace p118 := eq_true p118; replace q118 := eq_true q118) | (go_at_call 61; (with_reducible refine (affix_single.calls k1 ((rd_T53 l0 x9_1).f0) ((rd_T53 l0 x9_1).f1) ((rd_T53 l0 x9_1).f2) false _ A16.out).mono ?_); rintro e w24 ⟨rfl, hb⟩; have n0_ := aMk (blk_below (g := gb117) (o := .cells #[.int .i64 ((rd_T53 l0 x9_1).f0), .int .i64 ((rd_T53 l0 x9_1).f1), .string ((rd_T53 l0 x9_1).f2)] 53 (0, 0)) (aP89) hb); have n1_ := aMk (below_step (aP90) hb); clear BK117; clear HB; have BK117 := n0_; have HB := n1_; clear n0_ n1_; (try clear hb); (try clear hb2); (try clear hk); (try clear hi)))
             repeat (go_quiet (first | ((with_reducible refine gate_dst (N := 5) rfl ?_); refine box_event ?hg (N := 5) ?hd (cs := #[.int .i64 0, .int .i64 0, .string (⟨#[]⟩ : ByteArray)]) (t := 53) ?hr ?_; (case hd => rfl); (case hg => rfl); (case hr => first | (go_simp; done) | (go_simp; rfl)); intro gb117 hg w22 hbox hb; have n0_ := aMk (below_step (aP80) hb); have n1_ := aMk (hbox); have n2_ := aMk ((aP81 : w.heap.size ≤ gb117)); have n3_ := aMk ((aP81 : w.heap.size ≤ gb117)); clear HB; have HB := n0_; have BK117 := n1_; have GW117 := n2_; have GE117 := n3_; clear n0_ n1_ n2_ n3_; clear hb hbox hg; have hcz23_0 : w22.cell? ⟨gb117, 0, none⟩ = some (.int .i64 0) := (blk_cell BK117.out 0).trans rfl; have hcz23_1 : w22.cell? ⟨gb117, 1, none⟩ = some (.int .i64 0) := (blk_cell BK117.out 1).trans rfl; have hcz23_2 : w22.cell? ⟨gb117, 2, none⟩ = some (.string (⟨#[]⟩ : ByteArray)) := (blk_cell BK117.out 2).trans rfl; have hfz23_0 := blk_frozen BK117.out 0; have hfz23_1 := blk_frozen BK117.out 1; have hfz23_2 := blk_frozen BK117.out 2; have p118 : 0 ≤ ((ji6) : Int) := of_decide_eq_true (aP75); have q118 : (ji6) < (l0.length : Int) := of_decide_eq_true (aP75); obtain ⟨ad118, e118, hx118_0, hx118_1, hx118_2⟩ := at_T53 HR0.out (ji6) p118 q118; obtain rfl : ad116 = ad118 := (by injection e118); have hn118_0 : ad116.block ≠ gb117 := Nat.ne_of_lt (Nat.lt_of_lt_of_le (aP85) GW117.out); have hn118_1 : ad116.block ≠ gb117 := Nat.ne_of_lt (Nat.lt_of_lt_of_le (aP85) GW117.out); have hn118_2 : ad116.block ≠ gb117 := Nat.ne_of_lt (Nat.lt_of_lt_of_le (aP85) GW117.out); replace hx118_0 := (HB.out.cell (World.block_lt_of_cell? w _ hx118_0)).trans hx118_0; replace hx118_1 := (HB.out.cell (World.block_lt_of_cell? w _ hx118_1)).trans hx118_1; replace hx118_2 := (HB.out.cell (World.block_lt_of_cell? w _ hx118_2)).trans hx118_2; replace hx118_0 := (cell_far (p := ⟨gb117, 0, none⟩) (aP86) (.int .i64 ((rd_T53 l0 x9_1).f0))).trans hx118_0; replace hx118_1 := (cell_far (p := ⟨gb117, 0, none⟩) (aP86) (.int .i64 ((rd_T53 l0 x9_1).f0))).trans hx118_1; replace hx118_2 := (cell_far (p := ⟨gb117, 0, none⟩) (aP86) (.int .i64 ((rd_T53 l0 x9_1).f0))).trans hx118_2; replace hx118_0 := (cell_far (p := ⟨gb117, 1, none⟩) (aP87) (.int .i64 ((rd_T53 l0 x9_1).f1))).trans hx118_0; replace hx118_1 := (cell_far (p := ⟨gb117, 1, none⟩) (aP87) (.int .i64 ((rd_T53 l0 x9_1).f1))).trans hx118_1; replace hx118_2 := (cell_far (p := ⟨gb117, 1, none⟩) (aP87) (.int .i64 ((rd_T53 l0 x9_1).f1))).trans hx118_2; replace hx118_0 := (cell_far (p := ⟨gb117, 2, none⟩) (aP88) (.string ((rd_T53 l0 x9_1).f2))).trans hx118_0; replace hx118_1 := (cell_far (p := ⟨gb117, 2, none⟩) (aP88) (.string ((rd_T53 l0 x9_1).f2))).trans hx118_1; replace hx118_2 := (cell_far (p := ⟨gb117, 2, none⟩) (aP88) (.string ((rd_T53 l0 x9_1).f2))).trans hx118_2; (try have hy118_0 := fun (n_ : Nat) => (show (((((w22.drewN n_).setCell ⟨gb117, 0, none⟩ (.int .i64 ((rd_T53 l0 x9_1).f0))).setCell ⟨gb117, 1, none⟩ (.int .i64 ((rd_T53 l0 x9_1).f1))).setCell ⟨gb117, 2, none⟩ (.string ((rd_T53 l0 x9_1).f2)))).cell? _ = some _ from hx118_0)); (try have hy118_1 := fun (n_ : Nat) => (show (((((w22.drewN n_).setCell ⟨gb117, 0, none⟩ (.int .i64 ((rd_T53 l0 x9_1).f0))).setCell ⟨gb117, 1, none⟩ (.int .i64 ((rd_T53 l0 x9_1).f1))).setCell ⟨gb117, 2, none⟩ (.string ((rd_T53 l0 x9_1).f2)))).cell? _ = some _ from hx118_1)); (try have hy118_2 := fun (n_ : Nat) => (show (((((w22.drewN n_).setCell ⟨gb117, 0, none⟩ (.int .i64 ((rd_T53 l0 x9_1).f0))).setCell ⟨gb117, 1, none⟩ (.int .i64 ((rd_T53 l0 x9_1).f1))).setCell ⟨gb117, 2, none⟩ (.string ((rd_T53 l0 x9_1).f2)))).cell? _ = some _ from hx118_2)); clear hn118_0; clear hn118_1; clear hn118_2; replace p118 := eq_true p118; replace q118 := eq_true q118) | (go_at_call 61; (with_reducible refine (affix_single.calls k1 ((rd_T53 l0 x9_1).f0) ((rd_T53 l0 x9_1).f1) ((rd_T53 l0 x9_1).f2) false _ A16.out).mono ?_); rintro e w24 ⟨rfl, hb⟩; have n0_ := aMk (blk_below (g := gb117) (o := .cells #[.int .i64 ((rd_T53 l0 x9_1).f0), .int .i64 ((rd_T53 l0 x9_1).f1), .string ((rd_T53 l0 x9_1).f2)] 53 (0, 0)) (aP89) hb); have n1_ := aMk (below_step (aP90) hb); clear BK117; clear HB; have BK117 := n0_; have HB := n1_; clear n0_ n1_; (try clear hb); (try clear hb2); (try clear hk); (try clear hi))); try go_wp2_with (first | ((with_reducible refine gate_dst (N := 5) rfl ?_); refine box_event ?hg (N := 5) ?hd (cs := #[.int .i64 0, .int .i64 0, .string (⟨#[]⟩ : ByteArray)]) (t := 53) ?hr ?_; (case hd => rfl); (case hg => rfl); (case hr => first | (go_simp; done) | (go_simp; rfl)); intro gb117 hg w22 hbox hb; have n0_ := aMk (below_step (aP80) hb); have n1_ := aMk (hbox); have n2_ := aMk ((aP81 : w.heap.size ≤ gb117)); have n3_ := aMk ((aP81 : w.heap.size ≤ gb117)); clear HB; have HB := n0_; have BK117 := n1_; have GW117 := n2_; have GE117 := n3_; clear n0_ n1_ n2_ n3_; clear hb hbox hg; have hcz23_0 : w22.cell? ⟨gb117, 0, none⟩ = some (.int .i64 0) := (blk_cell BK117.out 0).trans rfl; have hcz23_1 : w22.cell? ⟨gb117, 1, none⟩ = some (.int .i64 0) := (blk_cell BK117.out 1).trans rfl; have hcz23_2 : w22.cell? ⟨gb117, 2, none⟩ = some (.string (⟨#[]⟩ : ByteArray)) := (blk_cell BK117.out 2).trans rfl; have hfz23_0 := blk_frozen BK117.out 0; have hfz23_1 := blk_frozen BK117.out 1; have hfz23_2 := blk_frozen BK117.out 2; have p118 : 0 ≤ ((ji6) : Int) := of_decide_eq_true (aP75); have q118 : (ji6) < (l0.length : Int) := of_decide_eq_true (aP75); obtain ⟨ad118, e118, hx118_0, hx118_1, hx118_2⟩ := at_T53 HR0.out (ji6) p118 q118; obtain rfl : ad116 = ad118 := (by injection e118); have hn118_0 : ad116.block ≠ gb117 := Nat.ne_of_lt (Nat.lt_of_lt_of_le (aP85) GW117.out); have hn118_1 : ad116.block ≠ gb117 := Nat.ne_of_lt (Nat.lt_of_lt_of_le (aP85) GW117.out); have hn118_2 : ad116.block ≠ gb117 := Nat.ne_of_lt (Nat.lt_of_lt_of_le (aP85) GW117.out); replace hx118_0 := (HB.out.cell (World.block_lt_of_cell? w _ hx118_0)).trans hx118_0; replace hx118_1 := (HB.out.cell (World.block_lt_of_cell? w _ hx118_1)).trans hx118_1; replace hx118_2 := (HB.out.cell (World.block_lt_of_cell? w _ hx118_2)).trans hx118_2; replace hx118_0 := (cell_far (p := ⟨gb117, 0, none⟩) (aP86) (.int .i64 ((rd_T53 l0 x9_1).f0))).trans hx118_0; replace hx118_1 := (cell_far (p := ⟨gb117, 0, none⟩) (aP86) (.int .i64 ((rd_T53 l0 x9_1).f0))).trans hx118_1; replace hx118_2 := (cell_far (p := ⟨gb117, 0, none⟩) (aP86) (.int .i64 ((rd_T53 l0 x9_1).f0))).trans hx118_2; replace hx118_0 := (cell_far (p := ⟨gb117, 1, none⟩) (aP87) (.int .i64 ((rd_T53 l0 x9_1).f1))).trans hx118_0; replace hx118_1 := (cell_far (p := ⟨gb117, 1, none⟩) (aP87) (.int .i64 ((rd_T53 l0 x9_1).f1))).trans hx118_1; replace hx118_2 := (cell_far (p := ⟨gb117, 1, none⟩) (aP87) (.int .i64 ((rd_T53 l0 x9_1).f1))).trans hx118_2; replace hx118_0 := (cell_far (p := ⟨gb117, 2, none⟩) (aP88) (.string ((rd_T53 l0 x9_1).f2))).trans hx118_0; replace hx118_1 := (cell_far (p := ⟨gb117, 2, none⟩) (aP88) (.string ((rd_T53 l0 x9_1).f2))).trans hx118_1; replace hx118_2 := (cell_far (p := ⟨gb117, 2, none⟩) (aP88) (.string ((rd_T53 l0 x9_1).f2))).trans hx118_2; (try have hy118_0 := fun (n_ : Nat) => (show (((((w22.drewN n_).setCell ⟨gb117, 0, none⟩ (.int .i64 ((rd_T53 l0 x9_1).f0))).setCell ⟨gb117, 1, none⟩ (.int .i64 ((rd_T53 l0 x9_1).f1))).setCell ⟨gb117, 2, none⟩ (.string ((rd_T53 l0 x9_1).f2)))).cell? _ = some _ from hx118_0)); (try have hy118_1 := fun (n_ : Nat) => (show (((((w22.drewN n_).setCell ⟨gb117, 0, none⟩ (.int .i64 ((rd_T53 l0 x9_1).f0))).setCell ⟨gb117, 1, none⟩ (.int .i64 ((rd_T53 l0 x9_1).f1))).setCell ⟨gb117, 2, none⟩ (.string ((rd_T53 l0 x9_1).f2)))).cell? _ = some _ from hx118_1)); (try have hy118_2 := fun (n_ : Nat) => (show (((((w22.drewN n_).setCell ⟨gb117, 0, none⟩ (.int .i64 ((rd_T53 l0 x9_1).f0))).setCell ⟨gb117, 1, none⟩ (.int .i64 ((rd_T53 l0 x9_1).f1))).setCell ⟨gb117, 2, none⟩ (.string ((rd_T53 l0 x9_1).f2)))).cell? _ = some _ from hx118_2)); clear hn118_0; clear hn118_1; clear hn118_2; replace p118 := eq_true p118; replace q118 := eq_true q118) | (go_at_call 61; (with_reducible refine (affix_single.calls k1 ((rd_T53 l0 x9_1).f0) ((rd_T53 l0 x9_1).f1) ((rd_T53 l0 x9_1).f2) false _ A16.out).mono ?_); rintro e w24 ⟨rfl, hb⟩; have n0_ := aMk (blk_below (g := gb117) (o := .cells #[.int .i64 ((rd_T53 l0 x9_1).f0), .int .i64 ((rd_T53 l0 x9_1).f1), .string ((rd_T53 l0 x9_1).f2)] 53 (0, 0)) (aP89) hb); have n1_ := aMk (below_step (aP90) hb); clear BK117; clear HB; have BK117 := n0_; have HB := n1_; clear n0_ n1_; (try clear hb); (try clear hb2); (try clear hk); (try clear hi))))
             exact aP26
         ·rw [if_neg c9] at H
          have c9b0 : (((rd_T53 l0 (ji6)).f0) == ((rd_T53 l0 x9_1).f0)) = false := beF c9
          have c9b1 : (((rd_T53 l0 (ji6)).f0) != ((rd_T53 l0 x9_1).f0)) = true := bnT c9
          replace H := Option.bind_eq_some_iff.mp H
          obtain ⟨t120, A250, H⟩ := H
          replace H : (if t120 = true then (affix_Check.l0 k1 l0 (wrap64 (x3_1 + (((rd_T53 l0 x9_1).f2).size : Int))) l0 (l0.length : Int) (wrap64 (x9_1 + 1))) else (some 131)) = some r := H
          have A25 := aMk A250
          clear A250
          by_cases c26 : t120 = true
          ·subst c26
           have H1 : (affix_Check.l0 k1 l0 (wrap64 (x3_1 + (((rd_T53 l0 x9_1).f2).size : Int))) l0 (l0.length : Int) (wrap64 (x9_1 + 1))) = some r := aP79
           clear H
           have H := H1
           clear H1
           have H' := aMk H
           clear H
           have p116 : 0 ≤ (x9_1 : Int) := of_decide_eq_true (aP75)
           have q116 : x9_1 < (l0.length : Int) := of_decide_eq_true (aP75)
           obtain ⟨ad116, e116, hx116_0, hx116_1, hx116_2⟩ := at_T53 HR0.out x9_1 p116 q116
           cases e116
           replace hx116_0 := (HB.out.cell (World.block_lt_of_cell? w _ hx116_0)).trans hx116_0
           replace hx116_1 := (HB.out.cell (World.block_lt_of_cell? w _ hx116_1)).trans hx116_1
           replace hx116_2 := (HB.out.cell (World.block_lt_of_cell? w _ hx116_2)).trans hx116_2
           replace p116 := eq_true p116
           replace q116 := eq_true q116
           go_wp2_with (first | ((with_reducible refine gate_dst (N := 5) rfl ?_); refine box_event ?hg (N := 5) ?hd (cs := #[.int .i64 0, .int .i64 0, .string (⟨#[]⟩ : ByteArray)]) (t := 53) ?hr ?_; (case hd => rfl); (case hg => rfl); (case hr => first | (go_simp; done) | (go_simp; rfl)); intro gb117 hg w27 hbox hb; have n0_ := aMk (below_step (aP80) hb); have n1_ := aMk (hbox); have n2_ := aMk ((aP81 : w.heap.size ≤ gb117)); have n3_ := aMk ((aP81 : w.heap.size ≤ gb117)); clear HB; have HB := n0_; have BK117 := n1_; have GW117 := n2_; have GE117 := n3_; clear n0_ n1_ n2_ n3_; clear hb hbox hg; have hcz28_0 : w27.cell? ⟨gb117, 0, none⟩ = some (.int .i64 0) := (blk_cell BK117.out 0).trans rfl; have hcz28_1 : w27.cell? ⟨gb117, 1, none⟩ = some (.int .i64 0) := (blk_cell BK117.out 1).trans rfl; have hcz28_2 : w27.cell? ⟨gb117, 2, none⟩ = some (.string (⟨#[]⟩ : ByteArray)) := (blk_cell BK117.out 2).trans rfl; have hfz28_0 := blk_frozen BK117.out 0; have hfz28_1 := blk_frozen BK117.out 1; have hfz28_2 := blk_frozen BK117.out 2; have p118 : 0 ≤ ((ji6) : Int) := of_decide_eq_true (aP75); have q118 : (ji6) < (l0.length : Int) := of_decide_eq_true (aP75); obtain ⟨ad118, e118, hx118_0, hx118_1, hx118_2⟩ := at_T53 HR0.out (ji6) p118 q118; obtain rfl : ad116 = ad118 := (by injection e118); have hn118_0 : ad116.block ≠ gb117 := Nat.ne_of_lt (Nat.lt_of_lt_of_le (aP85) GW117.out); have hn118_1 : ad116.block ≠ gb117 := Nat.ne_of_lt (Nat.lt_of_lt_of_le (aP85) GW117.out); have hn118_2 : ad116.block ≠ gb117 := Nat.ne_of_lt (Nat.lt_of_lt_of_le (aP85) GW117.out); replace hx118_0 := (HB.out.cell (World.block_lt_of_cell? w _ hx118_0)).trans hx118_0; replace hx118_1 := (HB.out.cell (World.block_lt_of_cell? w _ hx118_1)).trans hx118_1; replace hx118_2 := (HB.out.cell (World.block_lt_of_cell? w _ hx118_2)).trans hx118_2; replace hx118_0 := (cell_far (p := ⟨gb117, 0, none⟩) (aP86) (.int .i64 ((rd_T53 l0 x9_1).f0))).trans hx118_0; replace hx118_1 := (cell_far (p := ⟨gb117, 0, none⟩) (aP86) (.int .i64 ((rd_T53 l0 x9_1).f0))).trans hx118_1; replace hx118_2 := (cell_far (p := ⟨gb117, 0, none⟩) (aP86) (.int .i64 ((rd_T53 l0 x9_1).f0))).trans hx118_2; replace hx118_0 := (cell_far (p := ⟨gb117, 1, none⟩) (aP87) (.int .i64 ((rd_T53 l0 x9_1).f1))).trans hx118_0; replace hx118_1 := (cell_far (p := ⟨gb117, 1, none⟩) (aP87) (.int .i64 ((rd_T53 l0 x9_1).f1))).trans hx118_1; replace hx118_2 := (cell_far (p := ⟨gb117, 1, none⟩) (aP87) (.int .i64 ((rd_T53 l0 x9_1).f1))).trans hx118_2; replace hx118_0 := (cell_far (p := ⟨gb117, 2, none⟩) (aP88) (.string ((rd_T53 l0 x9_1).f2))).trans hx118_0; replace hx118_1 := (cell_far (p := ⟨gb117, 2, none⟩) (aP88) (.string ((rd_T53 l0 x9_1).f2))).trans hx118_1; replace hx118_2 := (cell_far (p := ⟨gb117, 2, none⟩) (aP88) (.string ((rd_T53 l0 x9_1).f2))).trans hx118_2; (try have hy118_0 := fun (n_ : Nat) => (show (((((w27.drewN n_).setCell ⟨gb117, 0, none⟩ (.int .i64 ((rd_T53 l0 x9_1).f0))).setCell ⟨gb117, 1, none⟩ (.int .i64 ((rd_T53 l0 x9_1).f1))).setCell ⟨gb117, 2, none⟩ (.string ((rd_T53 l0 x9_1).f2)))).cell? _ = some _ from hx118_0)); (try have hy118_1 := fun (n_ : Nat) => (show (((((w27.drewN n_).setCell ⟨gb117, 0, none⟩ (.int .i64 ((rd_T53 l0 x9_1).f0))).setCell ⟨gb117, 1, none⟩ (.int .i64 ((rd_T53 l0 x9_1).f1))).setCell ⟨gb117, 2, none⟩ (.string ((rd_T53 l0 x9_1).f2)))).cell? _ = some _ from hx118_1)); (try have hy118_2 := fun (n_ : Nat) => (show (((((w27.drewN n_).setCell ⟨gb117, 0, none⟩ (.int .i64 ((rd_T53 l0 x9_1).f0))).setCell ⟨gb117, 1, none⟩ (.int .i64 ((rd_T53 l0 x9_1).f1))).setCell ⟨gb117, 2, none⟩ (.string ((rd_T53 l0 x9_1).f2)))).cell? _ = some _ from hx118_2)); clear hn118_0; clear hn118_1; clear hn118_2; replace p118 := eq_true p118; replace q118 := eq_true q118) | (go_at_call 61; (with_reducible refine (affix_single.calls k1 ((rd_T53 l0 x9_1).f0) ((rd_T53 l0 x9_1).f1) ((rd_T53 l0 x9_1).f2) true _ A25.out).mono ?_); rintro e w29 ⟨rfl, hb⟩; have n0_ := aMk (blk_below (g := gb117) (o := .cells #[.int .i64 ((rd_T53 l0 x9_1).f0), .int .i64 ((rd_T53 l0 x9_1).f1), .string ((rd_T53 l0 x9_1).f2)] 53 (0, 0)) (aP89) hb); have n1_ := aMk (below_step (aP90) hb); clear BK117; clear HB; have BK117 := n0_; have HB := n1_; clear n0_ n1_; (try clear hb); (try clear hb2); (try clear hk); (try clear hi); have hcz30_0 : w29.cell? ⟨gb117, 0, none⟩ = some (.int .i64 ((rd_T53 l0 x9_1).f0)) := (blk_cell BK117.out 0).trans rfl; have hcz30_1 : w29.cell? ⟨gb117, 1, none⟩ = some (.int .i64 ((rd_T53 l0 x9_1).f1)) := (blk_cell BK117.out 1).trans rfl; have hcz30_2 : w29.cell? ⟨gb117, 2, none⟩ = some (.string ((rd_T53 l0 x9_1).f2)) := (blk_cell BK117.out 2).trans rfl; have hfz30_0 := blk_frozen BK117.out 0; have hfz30_1 := blk_frozen BK117.out 1; have hfz30_2 := blk_frozen BK117.out 2))
           repeat (go_quiet (first | ((with_reducible refine gate_dst (N := 5) rfl ?_); refine box_event ?hg (N := 5) ?hd (cs := #[.int .i64 0, .int .i64 0, .string (⟨#[]⟩ : ByteArray)]) (t := 53) ?hr ?_; (case hd => rfl); (case hg => rfl); (case hr => first | (go_simp; done) | (go_simp; rfl)); intro gb117 hg w27 hbox hb; have n0_ := aMk (below_step (aP80) hb); have n1_ := aMk (hbox); have n2_ := aMk ((aP81 : w.heap.size ≤ gb117)); have n3_ := aMk ((aP81 : w.heap.size ≤ gb117)); clear HB; have HB := n0_; have BK117 := n1_; have GW117 := n2_; have GE117 := n3_; clear n0_ n1_ n2_ n3_; clear hb hbox hg; have hcz28_0 : w27.cell? ⟨gb117, 0, none⟩ = some (.int .i64 0) := (blk_cell BK117.out 0).trans rfl; have hcz28_1 : w27.cell? ⟨gb117, 1, none⟩ = some (.int .i64 0) := (blk_cell BK117.out 1).trans rfl; have hcz28_2 : w27.cell? ⟨gb117, 2, none⟩ = some (.string (⟨#[]⟩ : ByteArray)) := (blk_cell BK117.out 2).trans rfl; have hfz28_0 := blk_frozen BK117.out 0; have hfz28_1 := blk_frozen BK117.out 1; have hfz28_2 := blk_frozen BK117.out 2; have p118 : 0 ≤ ((ji6) : Int) := of_decide_eq_true (aP75); have q118 : (ji6) < (l0.length : Int) := of_decide_eq_true (aP75); obtain ⟨ad118, e118, hx118_0, hx118_1, hx118_2⟩ := at_T53 HR0.out (ji6) p118 q118; obtain rfl : ad116 = ad118 := (by injection e118); have hn118_0 : ad116.block ≠ gb117 := Nat.ne_of_lt (Nat.lt_of_lt_of_le (aP85) GW117.out); have hn118_1 : ad116.block ≠ gb117 := Nat.ne_of_lt (Nat.lt_of_lt_of_le (aP85) GW117.out); have hn118_2 : ad116.block ≠ gb117 := Nat.ne_of_lt (Nat.lt_of_lt_of_le (aP85) GW117.out); replace hx118_0 := (HB.out.cell (World.block_lt_of_cell? w _ hx118_0)).trans hx118_0; replace hx118_1 := (HB.out.cell (World.block_lt_of_cell? w _ hx118_1)).trans hx118_1; replace hx118_2 := (HB.out.cell (World.block_lt_of_cell? w _ hx118_2)).trans hx118_2; replace hx118_0 := (cell_far (p := ⟨gb117, 0, none⟩) (aP86) (.int .i64 ((rd_T53 l0 x9_1).f0))).trans hx118_0; replace hx118_1 := (cell_far (p := ⟨gb117, 0, none⟩) (aP86) (.int .i64 ((rd_T53 l0 x9_1).f0))).trans hx118_1; replace hx118_2 := (cell_far (p := ⟨gb117, 0, none⟩) (aP86) (.int .i64 ((rd_T53 l0 x9_1).f0))).trans hx118_2; replace hx118_0 := (cell_far (p := ⟨gb117, 1, none⟩) (aP87) (.int .i64 ((rd_T53 l0 x9_1).f1))).trans hx118_0; replace hx118_1 := (cell_far (p := ⟨gb117, 1, none⟩) (aP87) (.int .i64 ((rd_T53 l0 x9_1).f1))).trans hx118_1; replace hx118_2 := (cell_far (p := ⟨gb117, 1, none⟩) (aP87) (.int .i64 ((rd_T53 l0 x9_1).f1))).trans hx118_2; replace hx118_0 := (cell_far (p := ⟨gb117, 2, none⟩) (aP88) (.string ((rd_T53 l0 x9_1).f2))).trans hx118_0; replace hx118_1 := (cell_far (p := ⟨gb117, 2, none⟩) (aP88) (.string ((rd_T53 l0 x9_1).f2))).trans hx118_1; replace hx118_2 := (cell_far (p := ⟨gb117, 2, none⟩) (aP88) (.string ((rd_T53 l0 x9_1).f2))).trans hx118_2; (try have hy118_0 := fun (n_ : Nat) => (show (((((w27.drewN n_).setCell ⟨gb117, 0, none⟩ (.int .i64 ((rd_T53 l0 x9_1).f0))).setCell ⟨gb117, 1, none⟩ (.int .i64 ((rd_T53 l0 x9_1).f1))).setCell ⟨gb117, 2, none⟩ (.string ((rd_T53 l0 x9_1).f2)))).cell? _ = some _ from hx118_0)); (try have hy118_1 := fun (n_ : Nat) => (show (((((w27.drewN n_).setCell ⟨gb117, 0, none⟩ (.int .i64 ((rd_T53 l0 x9_1).f0))).setCell ⟨gb117, 1, none⟩ (.int .i64 ((rd_T53 l0 x9_1).f1))).setCell ⟨gb117, 2, none⟩ (.string ((rd_T53 l0 x9_1).f2)))).cell? _ = some _ from hx118_1)); (try have hy118_2 := fun (n_ : Nat) => (show (((((w27.drewN n_).setCell ⟨gb117, 0, none⟩ (.int .i64 ((rd_T53 l0 x9_1).f0))).setCell ⟨gb117, 1, none⟩ (.int .i64 ((rd_T53 l0 x9_1).f1))).setCell ⟨gb117, 2, none⟩ (.string ((rd_T53 l0 x9_1).f2)))).cell? _ = some _ from hx118_2)); clear hn118_0; clear hn118_1; clear hn118_2; replace p118 := eq_true p118; replace q118 := eq_true q118) | (go_at_call 61; (with_reducible refine (affix_single.calls k1 ((rd_T53 l0 x9_1).f0) ((rd_T53 l0 x9_1).f1) ((rd_T53 l0 x9_1).f2) true _ A25.out).mono ?_); rintro e w29 ⟨rfl, hb⟩; have n0_ := aMk (blk_below (g := gb117) (o := .cells #[.int .i64 ((rd_T53 l0 x9_1).f0), .int .i64 ((rd_T53 l0 x9_1).f1), .string ((rd_T53 l0 x9_1).f2)] 53 (0, 0)) (aP89) hb); have n1_ := aMk (below_step (aP90) hb); clear BK117; clear HB; have BK117 := n0_; have HB := n1_; clear n0_ n1_; (try clear hb); (try clear hb2); (try clear hk); (try clear hi); have hcz30_0 : w29.cell? ⟨gb117, 0, none⟩ = some (.int .i64 ((rd_T53 l0 x9_1).f0)) := (blk_cell BK117.out 0).trans rfl; have hcz30_1 : w29.cell? ⟨gb117, 1, none⟩ = some (.int .i64 ((rd_T53 l0 x9_1).f1)) := (blk_cell BK117.out 1).trans rfl; have hcz30_2 : w29.cell? ⟨gb117, 2, none⟩ = some (.string ((rd_T53 l0 x9_1).f2)) := (blk_cell BK117.out 2).trans rfl; have hfz30_0 := blk_frozen BK117.out 0; have hfz30_1 := blk_frozen BK117.out 1; have hfz30_2 := blk_frozen BK117.out 2)); try go_wp2_with (first | ((with_reducible refine gate_dst (N := 5) rfl ?_); refine box_event ?hg (N := 5) ?hd (cs := #[.int .i64 0, .int .i64 0, .string (⟨#[]⟩ : ByteArray)]) (t := 53) ?hr ?_; (case hd => rfl); (case hg => rfl); (case hr => first | (go_simp; done) | (go_simp; rfl)); intro gb117 hg w27 hbox hb; have n0_ := aMk (below_step (aP80) hb); have n1_ := aMk (hbox); have n2_ := aMk ((aP81 : w.heap.size ≤ gb117)); have n3_ := aMk ((aP81 : w.heap.size ≤ gb117)); clear HB; have HB := n0_; have BK117 := n1_; have GW117 := n2_; have GE117 := n3_; clear n0_ n1_ n2_ n3_; clear hb hbox hg; have hcz28_0 : w27.cell? ⟨gb117, 0, none⟩ = some (.int .i64 0) := (blk_cell BK117.out 0).trans rfl; have hcz28_1 : w27.cell? ⟨gb117, 1, none⟩ = some (.int .i64 0) := (blk_cell BK117.out 1).trans rfl; have hcz28_2 : w27.cell? ⟨gb117, 2, none⟩ = some (.string (⟨#[]⟩ : ByteArray)) := (blk_cell BK117.out 2).trans rfl; have hfz28_0 := blk_frozen BK117.out 0; have hfz28_1 := blk_frozen BK117.out 1; have hfz28_2 := blk_frozen BK117.out 2; have p118 : 0 ≤ ((ji6) : Int) := of_decide_eq_true (aP75); have q118 : (ji6) < (l0.length : Int) := of_decide_eq_true (aP75); obtain ⟨ad118, e118, hx118_0, hx118_1, hx118_2⟩ := at_T53 HR0.out (ji6) p118 q118; obtain rfl : ad116 = ad118 := (by injection e118); have hn118_0 : ad116.block ≠ gb117 := Nat.ne_of_lt (Nat.lt_of_lt_of_le (aP85) GW117.out); have hn118_1 : ad116.block ≠ gb117 := Nat.ne_of_lt (Nat.lt_of_lt_of_le (aP85) GW117.out); have hn118_2 : ad116.block ≠ gb117 := Nat.ne_of_lt (Nat.lt_of_lt_of_le (aP85) GW117.out); replace hx118_0 := (HB.out.cell (World.block_lt_of_cell? w _ hx118_0)).trans hx118_0; replace hx118_1 := (HB.out.cell (World.block_lt_of_cell? w _ hx118_1)).trans hx118_1; replace hx118_2 := (HB.out.cell (World.block_lt_of_cell? w _ hx118_2)).trans hx118_2; replace hx118_0 := (cell_far (p := ⟨gb117, 0, none⟩) (aP86) (.int .i64 ((rd_T53 l0 x9_1).f0))).trans hx118_0; replace hx118_1 := (cell_far (p := ⟨gb117, 0, none⟩) (aP86) (.int .i64 ((rd_T53 l0 x9_1).f0))).trans hx118_1; replace hx118_2 := (cell_far (p := ⟨gb117, 0, none⟩) (aP86) (.int .i64 ((rd_T53 l0 x9_1).f0))).trans hx118_2; replace hx118_0 := (cell_far (p := ⟨gb117, 1, none⟩) (aP87) (.int .i64 ((rd_T53 l0 x9_1).f1))).trans hx118_0; replace hx118_1 := (cell_far (p := ⟨gb117, 1, none⟩) (aP87) (.int .i64 ((rd_T53 l0 x9_1).f1))).trans hx118_1; replace hx118_2 := (cell_far (p := ⟨gb117, 1, none⟩) (aP87) (.int .i64 ((rd_T53 l0 x9_1).f1))).trans hx118_2; replace hx118_0 := (cell_far (p := ⟨gb117, 2, none⟩) (aP88) (.string ((rd_T53 l0 x9_1).f2))).trans hx118_0; replace hx118_1 := (cell_far (p := ⟨gb117, 2, none⟩) (aP88) (.string ((rd_T53 l0 x9_1).f2))).trans hx118_1; replace hx118_2 := (cell_far (p := ⟨gb117, 2, none⟩) (aP88) (.string ((rd_T53 l0 x9_1).f2))).trans hx118_2; (try have hy118_0 := fun (n_ : Nat) => (show (((((w27.drewN n_).setCell ⟨gb117, 0, none⟩ (.int .i64 ((rd_T53 l0 x9_1).f0))).setCell ⟨gb117, 1, none⟩ (.int .i64 ((rd_T53 l0 x9_1).f1))).setCell ⟨gb117, 2, none⟩ (.string ((rd_T53 l0 x9_1).f2)))).cell? _ = some _ from hx118_0)); (try have hy118_1 := fun (n_ : Nat) => (show (((((w27.drewN n_).setCell ⟨gb117, 0, none⟩ (.int .i64 ((rd_T53 l0 x9_1).f0))).setCell ⟨gb117, 1, none⟩ (.int .i64 ((rd_T53 l0 x9_1).f1))).setCell ⟨gb117, 2, none⟩ (.string ((rd_T53 l0 x9_1).f2)))).cell? _ = some _ from hx118_1)); (try have hy118_2 := fun (n_ : Nat) => (show (((((w27.drewN n_).setCell ⟨gb117, 0, none⟩ (.int .i64 ((rd_T53 l0 x9_1).f0))).setCell ⟨gb117, 1, none⟩ (.int .i64 ((rd_T53 l0 x9_1).f1))).setCell ⟨gb117, 2, none⟩ (.string ((rd_T53 l0 x9_1).f2)))).cell? _ = some _ from hx118_2)); clear hn118_0; clear hn118_1; clear hn118_2; replace p118 := eq_true p118; replace q118 := eq_true q118) | (go_at_call 61; (with_reducible refine (affix_single.calls k1 ((rd_T53 l0 x9_1).f0) ((rd_T53 l0 x9_1).f1) ((rd_T53 l0 x9_1).f2) true _ A25.out).mono ?_); rintro e w29 ⟨rfl, hb⟩; have n0_ := aMk (blk_below (g := gb117) (o := .cells #[.int .i64 ((rd_T53 l0 x9_1).f0), .int .i64 ((rd_T53 l0 x9_1).f1), .string ((rd_T53 l0 x9_1).f2)] 53 (0, 0)) (aP89) hb); have n1_ := aMk (below_step (aP90) hb); clear BK117; clear HB; have BK117 := n0_; have HB := n1_; clear n0_ n1_; (try clear hb); (try clear hb2); (try clear hk); (try clear hi); have hcz30_0 : w29.cell? ⟨gb117, 0, none⟩ = some (.int .i64 ((rd_T53 l0 x9_1).f0)) := (blk_cell BK117.out 0).trans rfl; have hcz30_1 : w29.cell? ⟨gb117, 1, none⟩ = some (.int .i64 ((rd_T53 l0 x9_1).f1)) := (blk_cell BK117.out 1).trans rfl; have hcz30_2 : w29.cell? ⟨gb117, 2, none⟩ = some (.string ((rd_T53 l0 x9_1).f2)) := (blk_cell BK117.out 2).trans rfl; have hfz30_0 := blk_frozen BK117.out 0; have hfz30_1 := blk_frozen BK117.out 1; have hfz30_2 := blk_frozen BK117.out 2)))
           exact aP25
          ·replace c26 := Bool.eq_false_iff.mpr c26
           subst c26
           have H1 : (some 131) = some r := aP74
           clear H
           have H := H1
           clear H1
           obtain rfl := Option.some.inj H
           have p116 : 0 ≤ (x9_1 : Int) := of_decide_eq_true (aP75)
           have q116 : x9_1 < (l0.length : Int) := of_decide_eq_true (aP75)
           obtain ⟨ad116, e116, hx116_0, hx116_1, hx116_2⟩ := at_T53 HR0.out x9_1 p116 q116
           cases e116
           replace hx116_0 := (HB.out.cell (World.block_lt_of_cell? w _ hx116_0)).trans hx116_0
           replace hx116_1 := (HB.out.cell (World.block_lt_of_cell? w _ hx116_1)).trans hx116_1
           replace hx116_2 := (HB.out.cell (World.block_lt_of_cell? w _ hx116_2)).trans hx116_2
           replace p116 := eq_true p116
           replace q116 := eq_true q116
           go_wp2_with (first | ((with_reducible refine gate_dst (N := 5) rfl ?_); refine box_event ?hg (N := 5) ?hd (cs := #[.int .i64 0, .int .i64 0, .string (⟨#[]⟩ : ByteArray)]) (t := 53) ?hr ?_; (case hd => rfl); (case hg => rfl); (case hr => first | (go_simp; done) | (go_simp; rfl)); intro gb117 hg w31 hbox hb; have n0_ := aMk (below_step (aP80) hb); have n1_ := aMk (hbox); have n2_ := aMk ((aP81 : w.heap.size ≤ gb117)); have n3_ := aMk ((aP81 : w.heap.size ≤ gb117)); clear HB; have HB := n0_; have BK117 := n1_; have GW117 := n2_; have GE117 := n3_; clear n0_ n1_ n2_ n3_; clear hb hbox hg; have hcz32_0 : w31.cell? ⟨gb117, 0, none⟩ = some (.int .i64 0) := (blk_cell BK117.out 0).trans rfl; have hcz32_1 : w31.cell? ⟨gb117, 1, none⟩ = some (.int .i64 0) := (blk_cell BK117.out 1).trans rfl; have hcz32_2 : w31.cell? ⟨gb117, 2, none⟩ = some (.string (⟨#[]⟩ : ByteArray)) := (blk_cell BK117.out 2).trans rfl; have hfz32_0 := blk_frozen BK117.out 0; have hfz32_1 := blk_frozen BK117.out 1; have hfz32_2 := blk_frozen BK117.out 2; have p118 : 0 ≤ ((ji6) : Int) := of_decide_eq_true (aP75); have q118 : (ji6) < (l0.length : Int) := of_decide_eq_true (aP75); obtain ⟨ad118, e118, hx118_0, hx118_1, hx118_2⟩ := at_T53 HR0.out (ji6) p118 q118; obtain rfl : ad116 = ad118 := (by injection e118); have hn118_0 : ad116.block ≠ gb117 := Nat.ne_of_lt (Nat.lt_of_lt_of_le (aP85) GW117.out); have hn118_1 : ad116.block ≠ gb117 := Nat.ne_of_lt (Nat.lt_of_lt_of_le (aP85) GW117.out); have hn118_2 : ad116.block ≠ gb117 := Nat.ne_of_lt (Nat.lt_of_lt_of_le (aP85) GW117.out); replace hx118_0 := (HB.out.cell (World.block_lt_of_cell? w _ hx118_0)).trans hx118_0; replace hx118_1 := (HB.out.cell (World.block_lt_of_cell? w _ hx118_1)).trans hx118_1; replace hx118_2 := (HB.out.cell (World.block_lt_of_cell? w _ hx118_2)).trans hx118_2; replace hx118_0 := (cell_far (p := ⟨gb117, 0, none⟩) (aP86) (.int .i64 ((rd_T53 l0 x9_1).f0))).trans hx118_0; replace hx118_1 := (cell_far (p := ⟨gb117, 0, none⟩) (aP86) (.int .i64 ((rd_T53 l0 x9_1).f0))).trans hx118_1; replace hx118_2 := (cell_far (p := ⟨gb117, 0, none⟩) (aP86) (.int .i64 ((rd_T53 l0 x9_1).f0))).trans hx118_2; replace hx118_0 := (cell_far (p := ⟨gb117, 1, none⟩) (aP87) (.int .i64 ((rd_T53 l0 x9_1).f1))).trans hx118_0; replace hx118_1 := (cell_far (p := ⟨gb117, 1, none⟩) (aP87) (.int .i64 ((rd_T53 l0 x9_1).f1))).trans hx118_1; replace hx118_2 := (cell_far (p := ⟨gb117, 1, none⟩) (aP87) (.int .i64 ((rd_T53 l0 x9_1).f1))).trans hx118_2; replace hx118_0 := (cell_far (p := ⟨gb117, 2, none⟩) (aP88) (.string ((rd_T53 l0 x9_1).f2))).trans hx118_0; replace hx118_1 := (cell_far (p := ⟨gb117, 2, none⟩) (aP88) (.string ((rd_T53 l0 x9_1).f2))).trans hx118_1; replace hx118_2 := (cell_far (p := ⟨gb117, 2, none⟩) (aP88) (.string ((rd_T53 l0 x9_1).f2))).trans hx118_2; (try have hy118_0 := fun (n_ : Nat) => (show (((((w31.drewN n_).setCell ⟨gb117, 0, none⟩ (.int .i64 ((rd_T53 l0 x9_1).f0))).setCell ⟨gb117, 1, none⟩ (.int .i64 ((rd_T53 l0 x9_1).f1))).setCell ⟨gb117, 2, none⟩ (.string ((rd_T53 l0 x9_1).f2)))).cell? _ = some _ from hx118_0)); (try have hy118_1 := fun (n_ : Nat) => (show (((((w31.drewN n_).setCell ⟨gb117, 0, none⟩ (.int .i64 ((rd_T53 l0 x9_1).f0))).setCell ⟨gb117, 1, none⟩ (.int .i64 ((rd_T53 l0 x9_1).f1))).setCell ⟨gb117, 2, none⟩ (.string ((rd_T53 l0 x9_1).f2)))).cell? _ = some _ from hx118_1)); (try have hy118_2 := fun (n_ : Nat) => (show (((((w31.drewN n_).setCell ⟨gb117, 0, none⟩ (.int .i64 ((rd_T53 l0 x9_1).f0))).setCell ⟨gb117, 1, none⟩ (.int .i64 ((rd_T53 l0 x9_1).f1))).setCell ⟨gb117, 2, none⟩ (.string ((rd_T53 l0 x9_1).f2)))).cell? _ = some _ from hx118_2)); clear hn118_0; clear hn118_1; clear hn118_2; replace p118 := eq_true p118; replace q118 := eq_true q118) | (go_at_call 61; (with_reducible refine (affix_single.calls k1 ((rd_T53 l0 x9_1).f0) ((rd_T53 l0 x9_1).f1) ((rd_T53 l0 x9_1).f2) false _ A25.out).mono ?_); rintro e w33 ⟨rfl, hb⟩; have n0_ := aMk (blk_below (g := gb117) (o := .cells #[.int .i64 ((rd_T53 l0 x9_1).f0), .int .i64 ((rd_T53 l0 x9_1).f1), .string ((rd_T53 l0 x9_1).f2)] 53 (0, 0)) (aP89) hb); have n1_ := aMk (below_step (aP90) hb); clear BK117; clear HB; have BK117 := n0_; have HB := n1_; clear n0_ n1_; (try clear hb); (try clear hb2); (try clear hk); (try clear hi)))
           repeat (go_quiet (first | ((with_reducible refine gate_dst (N := 5) rfl ?_); refine box_event ?hg (N := 5) ?hd (cs := #[.int .i64 0, .int .i64 0, .string (⟨#[]⟩ : ByteArray)]) (t := 53) ?hr ?_; (case hd => rfl); (case hg => rfl); (case hr => first | (go_simp; done) | (go_simp; rfl)); intro gb117 hg w31 hbox hb; have n0_ := aMk (below_step (aP80) hb); have n1_ := aMk (hbox); have n2_ := aMk ((aP81 : w.heap.size ≤ gb117)); have n3_ := aMk ((aP81 : w.heap.size ≤ gb117)); clear HB; have HB := n0_; have BK117 := n1_; have GW117 := n2_; have GE117 := n3_; clear n0_ n1_ n2_ n3_; clear hb hbox hg; have hcz32_0 : w31.cell? ⟨gb117, 0, none⟩ = some (.int .i64 0) := (blk_cell BK117.out 0).trans rfl; have hcz32_1 : w31.cell? ⟨gb117, 1, none⟩ = some (.int .i64 0) := (blk_cell BK117.out 1).trans rfl; have hcz32_2 : w31.cell? ⟨gb117, 2, none⟩ = some (.string (⟨#[]⟩ : ByteArray)) := (blk_cell BK117.out 2).trans rfl; have hfz32_0 := blk_frozen BK117.out 0; have hfz32_1 := blk_frozen BK117.out 1; have hfz32_2 := blk_frozen BK117.out 2; have p118 : 0 ≤ ((ji6) : Int) := of_decide_eq_true (aP75); have q118 : (ji6) < (l0.length : Int) := of_decide_eq_true (aP75); obtain ⟨ad118, e118, hx118_0, hx118_1, hx118_2⟩ := at_T53 HR0.out (ji6) p118 q118; obtain rfl : ad116 = ad118 := (by injection e118); have hn118_0 : ad116.block ≠ gb117 := Nat.ne_of_lt (Nat.lt_of_lt_of_le (aP85) GW117.out); have hn118_1 : ad116.block ≠ gb117 := Nat.ne_of_lt (Nat.lt_of_lt_of_le (aP85) GW117.out); have hn118_2 : ad116.block ≠ gb117 := Nat.ne_of_lt (Nat.lt_of_lt_of_le (aP85) GW117.out); replace hx118_0 := (HB.out.cell (World.block_lt_of_cell? w _ hx118_0)).trans hx118_0; replace hx118_1 := (HB.out.cell (World.block_lt_of_cell? w _ hx118_1)).trans hx118_1; replace hx118_2 := (HB.out.cell (World.block_lt_of_cell? w _ hx118_2)).trans hx118_2; replace hx118_0 := (cell_far (p := ⟨gb117, 0, none⟩) (aP86) (.int .i64 ((rd_T53 l0 x9_1).f0))).trans hx118_0; replace hx118_1 := (cell_far (p := ⟨gb117, 0, none⟩) (aP86) (.int .i64 ((rd_T53 l0 x9_1).f0))).trans hx118_1; replace hx118_2 := (cell_far (p := ⟨gb117, 0, none⟩) (aP86) (.int .i64 ((rd_T53 l0 x9_1).f0))).trans hx118_2; replace hx118_0 := (cell_far (p := ⟨gb117, 1, none⟩) (aP87) (.int .i64 ((rd_T53 l0 x9_1).f1))).trans hx118_0; replace hx118_1 := (cell_far (p := ⟨gb117, 1, none⟩) (aP87) (.int .i64 ((rd_T53 l0 x9_1).f1))).trans hx118_1; replace hx118_2 := (cell_far (p := ⟨gb117, 1, none⟩) (aP87) (.int .i64 ((rd_T53 l0 x9_1).f1))).trans hx118_2; replace hx118_0 := (cell_far (p := ⟨gb117, 2, none⟩) (aP88) (.string ((rd_T53 l0 x9_1).f2))).trans hx118_0; replace hx118_1 := (cell_far (p := ⟨gb117, 2, none⟩) (aP88) (.string ((rd_T53 l0 x9_1).f2))).trans hx118_1; replace hx118_2 := (cell_far (p := ⟨gb117, 2, none⟩) (aP88) (.string ((rd_T53 l0 x9_1).f2))).trans hx118_2; (try have hy118_0 := fun (n_ : Nat) => (show (((((w31.drewN n_).setCell ⟨gb117, 0, none⟩ (.int .i64 ((rd_T53 l0 x9_1).f0))).setCell ⟨gb117, 1, none⟩ (.int .i64 ((rd_T53 l0 x9_1).f1))).setCell ⟨gb117, 2, none⟩ (.string ((rd_T53 l0 x9_1).f2)))).cell? _ = some _ from hx118_0)); (try have hy118_1 := fun (n_ : Nat) => (show (((((w31.drewN n_).setCell ⟨gb117, 0, none⟩ (.int .i64 ((rd_T53 l0 x9_1).f0))).setCell ⟨gb117, 1, none⟩ (.int .i64 ((rd_T53 l0 x9_1).f1))).setCell ⟨gb117, 2, none⟩ (.string ((rd_T53 l0 x9_1).f2)))).cell? _ = some _ from hx118_1)); (try have hy118_2 := fun (n_ : Nat) => (show (((((w31.drewN n_).setCell ⟨gb117, 0, none⟩ (.int .i64 ((rd_T53 l0 x9_1).f0))).setCell ⟨gb117, 1, none⟩ (.int .i64 ((rd_T53 l0 x9_1).f1))).setCell ⟨gb117, 2, none⟩ (.string ((rd_T53 l0 x9_1).f2)))).cell? _ = some _ from hx118_2)); clear hn118_0; clear hn118_1; clear hn118_2; replace p118 := eq_true p118; replace q118 := eq_true q118) | (go_at_call 61; (with_reducible refine (affix_single.calls k1 ((rd_T53 l0 x9_1).f0) ((rd_T53 l0 x9_1).f1) ((rd_T53 l0 x9_1).f2) false _ A25.out).mono ?_); rintro e w33 ⟨rfl, hb⟩; have n0_ := aMk (blk_below (g := gb117) (o := .cells #[.int .i64 ((rd_T53 l0 x9_1).f0), .int .i64 ((rd_T53 l0 x9_1).f1), .string ((rd_T53 l0 x9_1).f2)] 53 (0, 0)) (aP89) hb); have n1_ := aMk (below_step (aP90) hb); clear BK117; clear HB; have BK117 := n0_; have HB := n1_; clear n0_ n1_; (try clear hb); (try clear hb2); (try clear hk); (try clear hi))); try go_wp2_with (first | ((with_reducible refine gate_dst (N := 5) rfl ?_); refine box_event ?hg (N := 5) ?hd (cs := #[.int .i64 0, .int .i64 0, .string (⟨#[]⟩ : ByteArray)]) (t := 53) ?hr ?_; (case hd => rfl); (case hg => rfl); (case hr => first | (go_simp; done) | (go_simp; rfl)); intro gb117 hg w31 hbox hb; have n0_ := aMk (below_step (aP80) hb); have n1_ := aMk (hbox); have n2_ := aMk ((aP81 : w.heap.size ≤ gb117)); have n3_ := aMk ((aP81 : w.heap.size ≤ gb117)); clear HB; have HB := n0_; have BK117 := n1_; have GW117 := n2_; have GE117 := n3_; clear n0_ n1_ n2_ n3_; clear hb hbox hg; have hcz32_0 : w31.cell? ⟨gb117, 0, none⟩ = some (.int .i64 0) := (blk_cell BK117.out 0).trans rfl; have hcz32_1 : w31.cell? ⟨gb117, 1, none⟩ = some (.int .i64 0) := (blk_cell BK117.out 1).trans rfl; have hcz32_2 : w31.cell? ⟨gb117, 2, none⟩ = some (.string (⟨#[]⟩ : ByteArray)) := (blk_cell BK117.out 2).trans rfl; have hfz32_0 := blk_frozen BK117.out 0; have hfz32_1 := blk_frozen BK117.out 1; have hfz32_2 := blk_frozen BK117.out 2; have p118 : 0 ≤ ((ji6) : Int) := of_decide_eq_true (aP75); have q118 : (ji6) < (l0.length : Int) := of_decide_eq_true (aP75); obtain ⟨ad118, e118, hx118_0, hx118_1, hx118_2⟩ := at_T53 HR0.out (ji6) p118 q118; obtain rfl : ad116 = ad118 := (by injection e118); have hn118_0 : ad116.block ≠ gb117 := Nat.ne_of_lt (Nat.lt_of_lt_of_le (aP85) GW117.out); have hn118_1 : ad116.block ≠ gb117 := Nat.ne_of_lt (Nat.lt_of_lt_of_le (aP85) GW117.out); have hn118_2 : ad116.block ≠ gb117 := Nat.ne_of_lt (Nat.lt_of_lt_of_le (aP85) GW117.out); replace hx118_0 := (HB.out.cell (World.block_lt_of_cell? w _ hx118_0)).trans hx118_0; replace hx118_1 := (HB.out.cell (World.block_lt_of_cell? w _ hx118_1)).trans hx118_1; replace hx118_2 := (HB.out.cell (World.block_lt_of_cell? w _ hx118_2)).trans hx118_2; replace hx118_0 := (cell_far (p := ⟨gb117, 0, none⟩) (aP86) (.int .i64 ((rd_T53 l0 x9_1).f0))).trans hx118_0; replace hx118_1 := (cell_far (p := ⟨gb117, 0, none⟩) (aP86) (.int .i64 ((rd_T53 l0 x9_1).f0))).trans hx118_1; replace hx118_2 := (cell_far (p := ⟨gb117, 0, none⟩) (aP86) (.int .i64 ((rd_T53 l0 x9_1).f0))).trans hx118_2; replace hx118_0 := (cell_far (p := ⟨gb117, 1, none⟩) (aP87) (.int .i64 ((rd_T53 l0 x9_1).f1))).trans hx118_0; replace hx118_1 := (cell_far (p := ⟨gb117, 1, none⟩) (aP87) (.int .i64 ((rd_T53 l0 x9_1).f1))).trans hx118_1; replace hx118_2 := (cell_far (p := ⟨gb117, 1, none⟩) (aP87) (.int .i64 ((rd_T53 l0 x9_1).f1))).trans hx118_2; replace hx118_0 := (cell_far (p := ⟨gb117, 2, none⟩) (aP88) (.string ((rd_T53 l0 x9_1).f2))).trans hx118_0; replace hx118_1 := (cell_far (p := ⟨gb117, 2, none⟩) (aP88) (.string ((rd_T53 l0 x9_1).f2))).trans hx118_1; replace hx118_2 := (cell_far (p := ⟨gb117, 2, none⟩) (aP88) (.string ((rd_T53 l0 x9_1).f2))).trans hx118_2; (try have hy118_0 := fun (n_ : Nat) => (show (((((w31.drewN n_).setCell ⟨gb117, 0, none⟩ (.int .i64 ((rd_T53 l0 x9_1).f0))).setCell ⟨gb117, 1, none⟩ (.int .i64 ((rd_T53 l0 x9_1).f1))).setCell ⟨gb117, 2, none⟩ (.string ((rd_T53 l0 x9_1).f2)))).cell? _ = some _ from hx118_0)); (try have hy118_1 := fun (n_ : Nat) => (show (((((w31.drewN n_).setCell ⟨gb117, 0, none⟩ (.int .i64 ((rd_T53 l0 x9_1).f0))).setCell ⟨gb117, 1, none⟩ (.int .i64 ((rd_T53 l0 x9_1).f1))).setCell ⟨gb117, 2, none⟩ (.string ((rd_T53 l0 x9_1).f2)))).cell? _ = some _ from hx118_1)); (try have hy118_2 := fun (n_ : Nat) => (show (((((w31.drewN n_).setCell ⟨gb117, 0, none⟩ (.int .i64 ((rd_T53 l0 x9_1).f0))).setCell ⟨gb117, 1, none⟩ (.int .i64 ((rd_T53 l0 x9_1).f1))).setCell ⟨gb117, 2, none⟩ (.string ((rd_T53 l0 x9_1).f2)))).cell? _ = some _ from hx118_2)); clear hn118_0; clear hn118_1; clear hn118_2; replace p118 := eq_true p118; replace q118 := eq_true q118) | (go_at_call 61; (with_reducible refine (affix_single.calls k1 ((rd_T53 l0 x9_1).f0) ((rd_T53 l0 x9_1).f1) ((rd_T53 l0 x9_1).f2) false _ A25.out).mono ?_); rintro e w33 ⟨rfl, hb⟩; have n0_ := aMk (blk_below (g := gb117) (o := .cells #[.int .i64 ((rd_T53 l0 x9_1).f0), .int .i64 ((rd_T53 l0 x9_1).f1), .string ((rd_T53 l0 x9_1).f2)] 53 (0, 0)) (aP89) hb); have n1_ := aMk (below_step (aP90) hb); clear BK117; clear HB; have BK117 := n0_; have HB := n1_; clear n0_ n1_; (try clear hb); (try clear hb2); (try clear hk); (try clear hi))))
           exact aP26
        ·rw [if_neg c8] at H
         exact absurd H (by simp)
       ·rw [if_neg c7] at H
        exact absurd H (by simp)
      ·rw [if_neg c5] at H
       have c5b0 : decide (0 < x9_1) = false := dFa c5
       clear c5
       replace H := Option.bind_eq_some_iff.mp H
       obtain ⟨t121, A340, H⟩ := H
       replace H : (if t121 = true then (affix_Check.l0 k1 l0 (wrap64 (x3_1 + (((rd_T53 l0 x9_1).f2).size : Int))) l0 (l0.length : Int) (wrap64 (x9_1 + 1))) else (some 131)) = some r := H
       have A34 := aMk A340
       clear A340
       by_cases c35 : t121 = true
       ·subst c35
        have H1 : (affix_Check.l0 k1 l0 (wrap64 (x3_1 + (((rd_T53 l0 x9_1).f2).size : Int))) l0 (l0.length : Int) (wrap64 (x9_1 + 1))) = some r := aP79
        clear H
        have H := H1
        clear H1
        have H' := aMk H
        clear H
        have p116 : 0 ≤ (x9_1 : Int) := of_decide_eq_true (aP75)
        have q116 : x9_1 < (l0.length : Int) := of_decide_eq_true (aP75)
        obtain ⟨ad116, e116, hx116_0, hx116_1, hx116_2⟩ := at_T53 HR0.out x9_1 p116 q116
        cases e116
        replace hx116_0 := (HB.out.cell (World.block_lt_of_cell? w _ hx116_0)).trans hx116_0
        replace hx116_1 := (HB.out.cell (World.block_lt_of_cell? w _ hx116_1)).trans hx116_1
        replace hx116_2 := (HB.out.cell (World.block_lt_of_cell? w _ hx116_2)).trans hx116_2
        replace p116 := eq_true p116
        replace q116 := eq_true q116
        go_wp2_with (first | ((with_reducible refine gate_dst (N := 5) rfl ?_); refine box_event ?hg (N := 5) ?hd (cs := #[.int .i64 0, .int .i64 0, .string (⟨#[]⟩ : ByteArray)]) (t := 53) ?hr ?_; (case hd => rfl); (case hg => rfl); (case hr => first | (go_simp; done) | (go_simp; rfl)); intro gb117 hg w36 hbox hb; have n0_ := aMk (below_step (aP80) hb); have n1_ := aMk (hbox); have n2_ := aMk ((aP81 : w.heap.size ≤ gb117)); have n3_ := aMk ((aP81 : w.heap.size ≤ gb117)); clear HB; have HB := n0_; have BK117 := n1_; have GW117 := n2_; have GE117 := n3_; clear n0_ n1_ n2_ n3_; clear hb hbox hg; have hcz37_0 : w36.cell? ⟨gb117, 0, none⟩ = some (.int .i64 0) := (blk_cell BK117.out 0).trans rfl; have hcz37_1 : w36.cell? ⟨gb117, 1, none⟩ = some (.int .i64 0) := (blk_cell BK117.out 1).trans rfl; have hcz37_2 : w36.cell? ⟨gb117, 2, none⟩ = some (.string (⟨#[]⟩ : ByteArray)) := (blk_cell BK117.out 2).trans rfl; have hfz37_0 := blk_frozen BK117.out 0; have hfz37_1 := blk_frozen BK117.out 1; have hfz37_2 := blk_frozen BK117.out 2) | (go_at_call 61; (with_reducible refine (affix_single.calls k1 ((rd_T53 l0 x9_1).f0) ((rd_T53 l0 x9_1).f1) ((rd_T53 l0 x9_1).f2) true _ A34.out).mono ?_); rintro e w38 ⟨rfl, hb⟩; have n0_ := aMk (blk_below (g := gb117) (o := .cells #[.int .i64 ((rd_T53 l0 x9_1).f0), .int .i64 ((rd_T53 l0 x9_1).f1), .string ((rd_T53 l0 x9_1).f2)] 53 (0, 0)) (aP89) hb); have n1_ := aMk (below_step (aP90) hb); clear BK117; clear HB; have BK117 := n0_; have HB := n1_; clear n0_ n1_; (try clear hb); (try clear hb2); (try clear hk); (try clear hi); have hcz39_0 : w38.cell? ⟨gb117, 0, none⟩ = some (.int .i64 ((rd_T53 l0 x9_1).f0)) := (blk_cell BK117.out 0).trans rfl; have hcz39_1 : w38.cell? ⟨gb117, 1, none⟩ = some (.int .i64 ((rd_T53 l0 x9_1).f1)) := (blk_cell BK117.out 1).trans rfl; have hcz39_2 : w38.cell? ⟨gb117, 2, none⟩ = some (.string ((rd_T53 l0 x9_1).f2)) := (blk_cell BK117.out 2).trans rfl; have hfz39_0 := blk_frozen BK117.out 0; have hfz39_1 := blk_frozen BK117.out 1; have hfz39_2 := blk_frozen BK117.out 2))
        repeat (go_quiet (first | ((with_reducible refine gate_dst (N := 5) rfl ?_); refine box_event ?hg (N := 5) ?hd (cs := #[.int .i64 0, .int .i64 0, .string (⟨#[]⟩ : ByteArray)]) (t := 53) ?hr ?_; (case hd => rfl); (case hg => rfl); (case hr => first | (go_simp; done) | (go_simp; rfl)); intro gb117 hg w36 hbox hb; have n0_ := aMk (below_step (aP80) hb); have n1_ := aMk (hbox); have n2_ := aMk ((aP81 : w.heap.size ≤ gb117)); have n3_ := aMk ((aP81 : w.heap.size ≤ gb117)); clear HB; have HB := n0_; have BK117 := n1_; have GW117 := n2_; have GE117 := n3_; clear n0_ n1_ n2_ n3_; clear hb hbox hg; have hcz37_0 : w36.cell? ⟨gb117, 0, none⟩ = some (.int .i64 0) := (blk_cell BK117.out 0).trans rfl; have hcz37_1 : w36.cell? ⟨gb117, 1, none⟩ = some (.int .i64 0) := (blk_cell BK117.out 1).trans rfl; have hcz37_2 : w36.cell? ⟨gb117, 2, none⟩ = some (.string (⟨#[]⟩ : ByteArray)) := (blk_cell BK117.out 2).trans rfl; have hfz37_0 := blk_frozen BK117.out 0; have hfz37_1 := blk_frozen BK117.out 1; have hfz37_2 := blk_frozen BK117.out 2) | (go_at_call 61; (with_reducible refine (affix_single.calls k1 ((rd_T53 l0 x9_1).f0) ((rd_T53 l0 x9_1).f1) ((rd_T53 l0 x9_1).f2) true _ A34.out).mono ?_); rintro e w38 ⟨rfl, hb⟩; have n0_ := aMk (blk_below (g := gb117) (o := .cells #[.int .i64 ((rd_T53 l0 x9_1).f0), .int .i64 ((rd_T53 l0 x9_1).f1), .string ((rd_T53 l0 x9_1).f2)] 53 (0, 0)) (aP89) hb); have n1_ := aMk (below_step (aP90) hb); clear BK117; clear HB; have BK117 := n0_; have HB := n1_; clear n0_ n1_; (try clear hb); (try clear hb2); (try clear hk); (try clear hi); have hcz39_0 : w38.cell? ⟨gb117, 0, none⟩ = some (.int .i64 ((rd_T53 l0 x9_1).f0)) := (blk_cell BK117.out 0).trans rfl; have hcz39_1 : w38.cell? ⟨gb117, 1, none⟩ = some (.int .i64 ((rd_T53 l0 x9_1).f1)) := (blk_cell BK117.out 1).trans rfl; have hcz39_2 : w38.cell? ⟨gb117, 2, none⟩ = some (.string ((rd_T53 l0 x9_1).f2)) := (blk_cell BK117.out 2).trans rfl; have hfz39_0 := blk_frozen BK117.out 0; have hfz39_1 := blk_frozen BK117.out 1; have hfz39_2 := blk_frozen BK117.out 2)); try go_wp2_with (first | ((with_reducible refine gate_dst (N := 5) rfl ?_); refine box_event ?hg (N := 5) ?hd (cs := #[.int .i64 0, .int .i64 0, .string (⟨#[]⟩ : ByteArray)]) (t := 53) ?hr ?_; (case hd => rfl); (case hg => rfl); (case hr => first | (go_simp; done) | (go_simp; rfl)); intro gb117 hg w36 hbox hb; have n0_ := aMk (below_step (aP80) hb); have n1_ := aMk (hbox); have n2_ := aMk ((aP81 : w.heap.size ≤ gb117)); have n3_ := aMk ((aP81 : w.heap.size ≤ gb117)); clear HB; have HB := n0_; have BK117 := n1_; have GW117 := n2_; have GE117 := n3_; clear n0_ n1_ n2_ n3_; clear hb hbox hg; have hcz37_0 : w36.cell? ⟨gb117, 0, none⟩ = some (.int .i64 0) := (blk_cell BK117.out 0).trans rfl; have hcz37_1 : w36.cell? ⟨gb117, 1, none⟩ = some (.int .i64 0) := (blk_cell BK117.out 1).trans rfl; have hcz37_2 : w36.cell? ⟨gb117, 2, none⟩ = some (.string (⟨#[]⟩ : ByteArray)) := (blk_cell BK117.out 2).trans rfl; have hfz37_0 := blk_frozen BK117.out 0; have hfz37_1 := blk_frozen BK117.out 1; have hfz37_2 := blk_frozen BK117.out 2) | (go_at_call 61; (with_reducible refine (affix_single.calls k1 ((rd_T53 l0 x9_1).f0) ((rd_T53 l0 x9_1).f1) ((rd_T53 l0 x9_1).f2) true _ A34.out).mono ?_); rintro e w38 ⟨rfl, hb⟩; have n0_ := aMk (blk_below (g := gb117) (o := .cells #[.int .i64 ((rd_T53 l0 x9_1).f0), .int .i64 ((rd_T53 l0 x9_1).f1), .string ((rd_T53 l0 x9_1).f2)] 53 (0, 0)) (aP89) hb); have n1_ := aMk (below_step (aP90) hb); clear BK117; clear HB; have BK117 := n0_; have HB := n1_; clear n0_ n1_; (try clear hb); (try clear hb2); (try clear hk); (try clear hi); have hcz39_0 : w38.cell? ⟨gb117, 0, none⟩ = some (.int .i64 ((rd_T53 l0 x9_1).f0)) := (blk_cell BK117.out 0).trans rfl; have hcz39_1 : w38.cell? ⟨gb117, 1, none⟩ = some (.int .i64 ((rd_T53 l0 x9_1).f1)) := (blk_cell BK117.out 1).trans rfl; have hcz39_2 : w38.cell? ⟨gb117, 2, none⟩ = some (.string ((rd_T53 l0 x9_1).f2)) := (blk_cell BK117.out 2).trans rfl; have hfz39_0 := blk_frozen BK117.out 0; have hfz39_1 := blk_frozen BK117.out 1; have hfz39_2 := blk_frozen BK117.out 2)))
        exact aP25
       ·replace c35 := Bool.eq_false_iff.mpr c35
        subst c35
        have H1 : (some 131) = some r := aP74
        clear H
        have H := H1
        clear H1
        obtain rfl := Option.some.inj H
        have p116 : 0 ≤ (x9_1 : Int) := of_decide_eq_true (aP75)
        have q116 : x9_1 < (l0.length : Int) := of_decide_eq_true (aP75)
        obtain ⟨ad116, e116, hx116_0, hx116_1, hx116_2⟩ := at_T53 HR0.out x9_1 p116 q116
        cases e116
        replace hx116_0 := (HB.out.cell (World.block_lt_of_cell? w _ hx116_0)).trans hx116_0
        replace hx116_1 := (HB.out.cell (World.block_lt_of_cell? w _ hx116_1)).trans hx116_1
        replace hx116_2 := (HB.out.cell (World.block_lt_of_cell? w _ hx116_2)).trans hx116_2
        replace p116 := eq_true p116
        replace q116 := eq_true q116
        go_wp2_with (first | ((with_reducible refine gate_dst (N := 5) rfl ?_); refine box_event ?hg (N := 5) ?hd (cs := #[.int .i64 0, .int .i64 0, .string (⟨#[]⟩ : ByteArray)]) (t := 53) ?hr ?_; (case hd => rfl); (case hg => rfl); (case hr => first | (go_simp; done) | (go_simp; rfl)); intro gb117 hg w40 hbox hb; have n0_ := aMk (below_step (aP80) hb); have n1_ := aMk (hbox); have n2_ := aMk ((aP81 : w.heap.size ≤ gb117)); have n3_ := aMk ((aP81 : w.heap.size ≤ gb117)); clear HB; have HB := n0_; have BK117 := n1_; have GW117 := n2_; have GE117 := n3_; clear n0_ n1_ n2_ n3_; clear hb hbox hg; have hcz41_0 : w40.cell? ⟨gb117, 0, none⟩ = some (.int .i64 0) := (blk_cell BK117.out 0).trans rfl; have hcz41_1 : w40.cell? ⟨gb117, 1, none⟩ = some (.int .i64 0) := (blk_cell BK117.out 1).trans rfl; have hcz41_2 : w40.cell? ⟨gb117, 2, none⟩ = some (.string (⟨#[]⟩ : ByteArray)) := (blk_cell BK117.out 2).trans rfl; have hfz41_0 := blk_frozen BK117.out 0; have hfz41_1 := blk_frozen BK117.out 1; have hfz41_2 := blk_frozen BK117.out 2) | (go_at_call 61; (with_reducible refine (affix_single.calls k1 ((rd_T53 l0 x9_1).f0) ((rd_T53 l0 x9_1).f1) ((rd_T53 l0 x9_1).f2) false _ A34.out).mono ?_); rintro e w42 ⟨rfl, hb⟩; have n0_ := aMk (blk_below (g := gb117) (o := .cells #[.int .i64 ((rd_T53 l0 x9_1).f0), .int .i64 ((rd_T53 l0 x9_1).f1), .string ((rd_T53 l0 x9_1).f2)] 53 (0, 0)) (aP89) hb); have n1_ := aMk (below_step (aP90) hb); clear BK117; clear HB; have BK117 := n0_; have HB := n1_; clear n0_ n1_; (try clear hb); (try clear hb2); (try clear hk); (try clear hi)))
        repeat (go_quiet (first | ((with_reducible refine gate_dst (N := 5) rfl ?_); refine box_event ?hg (N := 5) ?hd (cs := #[.int .i64 0, .int .i64 0, .string (⟨#[]⟩ : ByteArray)]) (t := 53) ?hr ?_; (case hd => rfl); (case hg => rfl); (case hr => first | (go_simp; done) | (go_simp; rfl)); intro gb117 hg w40 hbox hb; have n0_ := aMk (below_step (aP80) hb); have n1_ := aMk (hbox); have n2_ := aMk ((aP81 : w.heap.size ≤ gb117)); have n3_ := aMk ((aP81 : w.heap.size ≤ gb117)); clear HB; have HB := n0_; have BK117 := n1_; have GW117 := n2_; have GE117 := n3_; clear n0_ n1_ n2_ n3_; clear hb hbox hg; have hcz41_0 : w40.cell? ⟨gb117, 0, none⟩ = some (.int .i64 0) := (blk_cell BK117.out 0).trans rfl; have hcz41_1 : w40.cell? ⟨gb117, 1, none⟩ = some (.int .i64 0) := (blk_cell BK117.out 1).trans rfl; have hcz41_2 : w40.cell? ⟨gb117, 2, none⟩ = some (.string (⟨#[]⟩ : ByteArray)) := (blk_cell BK117.out 2).trans rfl; have hfz41_0 := blk_frozen BK117.out 0; have hfz41_1 := blk_frozen BK117.out 1; have hfz41_2 := blk_frozen BK117.out 2) | (go_at_call 61; (with_reducible refine (affix_single.calls k1 ((rd_T53 l0 x9_1).f0) ((rd_T53 l0 x9_1).f1) ((rd_T53 l0 x9_1).f2) false _ A34.out).mono ?_); rintro e w42 ⟨rfl, hb⟩; have n0_ := aMk (blk_below (g := gb117) (o := .cells #[.int .i64 ((rd_T53 l0 x9_1).f0), .int .i64 ((rd_T53 l0 x9_1).f1), .string ((rd_T53 l0 x9_1).f2)] 53 (0, 0)) (aP89) hb); have n1_ := aMk (below_step (aP90) hb); clear BK117; clear HB; have BK117 := n0_; have HB := n1_; clear n0_ n1_; (try clear hb); (try clear hb2); (try clear hk); (try clear hi))); try go_wp2_with (first | ((with_reducible refine gate_dst (N := 5) rfl ?_); refine box_event ?hg (N := 5) ?hd (cs := #[.int .i64 0, .int .i64 0, .string (⟨#[]⟩ : ByteArray)]) (t := 53) ?hr ?_; (case hd => rfl); (case hg => rfl); (case hr => first | (go_simp; done) | (go_simp; rfl)); intro gb117 hg w40 hbox hb; have n0_ := aMk (below_step (aP80) hb); have n1_ := aMk (hbox); have n2_ := aMk ((aP81 : w.heap.size ≤ gb117)); have n3_ := aMk ((aP81 : w.heap.size ≤ gb117)); clear HB; have HB := n0_; have BK117 := n1_; have GW117 := n2_; have GE117 := n3_; clear n0_ n1_ n2_ n3_; clear hb hbox hg; have hcz41_0 : w40.cell? ⟨gb117, 0, none⟩ = some (.int .i64 0) := (blk_cell BK117.out 0).trans rfl; have hcz41_1 : w40.cell? ⟨gb117, 1, none⟩ = some (.int .i64 0) := (blk_cell BK117.out 1).trans rfl; have hcz41_2 : w40.cell? ⟨gb117, 2, none⟩ = some (.string (⟨#[]⟩ : ByteArray)) := (blk_cell BK117.out 2).trans rfl; have hfz41_0 := blk_frozen BK117.out 0; have hfz41_1 := blk_frozen BK117.out 1; have hfz41_2 := blk_frozen BK117.out 2) | (go_at_call 61; (with_reducible refine (affix_single.calls k1 ((rd_T53 l0 x9_1).f0) ((rd_T53 l0 x9_1).f1) ((rd_T53 l0 x9_1).f2) false _ A34.out).mono ?_); rintro e w42 ⟨rfl, hb⟩; have n0_ := aMk (blk_below (g := gb117) (o := .cells #[.int .i64 ((rd_T53 l0 x9_1).f0), .int .i64 ((rd_T53 l0 x9_1).f1), .string ((rd_T53 l0 x9_1).f2)] 53 (0, 0)) (aP89) hb); have n1_ := aMk (below_step (aP90) hb); clear BK117; clear HB; have BK117 := n0_; have HB := n1_; clear n0_ n1_; (try clear hb); (try clear hb2); (try clear hk); (try clear hi))))
        go_ret
        exact ⟨aP91, aP90⟩
     ·rw [if_neg c4] at H
      exact absurd H (by simp)
    ·rw [if_neg c3] at H
     exact absurd H (by simp)
   ·rw [if_neg c2] at H
    have c2b0 : decide (x9_1 < (l0.length : Int)) = false := dFa c2
    clear c2
    by_cases c43 : (l0.length : Int) > 64
    ·rw [if_pos c43] at H
     have c43b0 : decide (64 < (l0.length : Int)) = true := dTr c43
     have c43b1 : decide (64 < l0.length) = true := dTr (by omega)
     clear c43
     exact aP24
    ·rw [if_neg c43] at H
     have c43b0 : decide (64 < (l0.length : Int)) = false := dFa c43
     have c43b1 : decide (64 < l0.length) = false := dFa (by omega)
     clear c43
     by_cases c44 : x3_1 > 64
     ·rw [if_pos c44] at H
      have c44b0 : decide (64 < x3_1) = true := dTr c44
      exact aP23
     ·rw [if_neg c44] at H
      have c44b0 : decide (64 < x3_1) = false := dFa c44
      exact aP23
def affix_kind.f (a0 : ByteArray) : Option (Int) := if a0.toList = ([45] : List UInt8) then (some 1) else (if a0.toList = ([43] : List UInt8) then (some 2) else (if a0.toList = ([37] : List UInt8) then (some 3) else (if a0.toList = ([226, 128, 176] : List UInt8) then (some 4) else (if a0.toList = ([194, 164] : List UInt8) then (some 5) else (some 0)))))
set_option maxHeartbeats 8000000 in
set_option maxRecDepth 100000 in
theorem affix_kind.calls (a0 : ByteArray) (r : Int) (w : World) (h : affix_kind.f a0 = some r) :
  Calls Try.prog 89 #[.string a0] w fun e w' => e = .returned (.int .i64 r) ∧ Drawn0 w w' := by
 have H : (if a0.toList = ([45] : List UInt8) then (some 1) else (if a0.toList = ([43] : List UInt8) then (some 2) else (if a0.toList = ([37] : List UInt8) then (some 3) else (if a0.toList = ([226, 128, 176] : List UInt8) then (some 4) else (if a0.toList = ([194, 164] : List UInt8) then (some 5) else (some 0)))))) = some r := h
 clear h
 by_cases c2 : a0.toList = ([45] : List UInt8)
 ·rw [if_pos c2] at H
  have c2b0 : (a0.toList == ([45] : List UInt8)) = true := beT c2
  have c2b1 : (a0.toList != ([45] : List UInt8)) = false := bnF c2
  clear c2
  exact aP22
 ·rw [if_neg c2] at H
  have c2b0 : (a0.toList == ([45] : List UInt8)) = false := beF c2
  have c2b1 : (a0.toList != ([45] : List UInt8)) = true := bnT c2
  by_cases c3 : a0.toList = ([43] : List UInt8)
  ·rw [if_pos c3] at H
   have c3b0 : (a0.toList == ([43] : List UInt8)) = true := beT c3
   have c3b1 : (a0.toList != ([43] : List UInt8)) = false := bnF c3
   clear c3
   exact aP22
  ·rw [if_neg c3] at H
   have c3b0 : (a0.toList == ([43] : List UInt8)) = false := beF c3
   have c3b1 : (a0.toList != ([43] : List UInt8)) = true := bnT c3
   by_cases c4 : a0.toList = ([37] : List UInt8)
   ·rw [if_pos c4] at H
    have c4b0 : (a0.toList == ([37] : List UInt8)) = true := beT c4
    have c4b1 : (a0.toList != ([37] : List UInt8)) = false := bnF c4
    clear c4
    exact aP22
   ·rw [if_neg c4] at H
    have c4b0 : (a0.toList == ([37] : List UInt8)) = false := beF c4
    have c4b1 : (a0.toList != ([37] : List UInt8)) = true := bnT c4
    by_cases c5 : a0.toList = ([226, 128, 176] : List UInt8)
    ·rw [if_pos c5] at H
     have c5b0 : (a0.toList == ([226, 128, 176] : List UInt8)) = true := beT c5
     have c5b1 : (a0.toList != ([226, 128, 176] : List UInt8)) = false := bnF c5
     clear c5
     exact aP22
    ·rw [if_neg c5] at H
     have c5b0 : (a0.toList == ([226, 128, 176] : List UInt8)) = false := beF c5
     have c5b1 : (a0.toList != ([226, 128, 176] : List UInt8)) = true := bnT c5
     by_cases c6 : a0.toList = ([194, 164] : List UInt8)
     ·rw [if_pos c6] at H
      have c6b0 : (a0.toList == ([194, 164] : List UInt8)) = true := beT c6
      have c6b1 : (a0.toList != ([194, 164] : List UInt8)) = false := bnF c6
      clear c6
      exact aP22
     ·rw [if_neg c6] at H
      have c6b0 : (a0.toList == ([194, 164] : List UInt8)) = false := beF c6
      have c6b1 : (a0.toList != ([194, 164] : List UInt8)) = true := bnT c6
      exact aP22
end Go.Proofs.Ytacnjemndfmbhaa.Q
end

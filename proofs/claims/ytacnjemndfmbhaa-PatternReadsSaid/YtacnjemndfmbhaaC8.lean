import Derived.Test.YtacnjemndfmbhaaC6
import Derived.Test.YtacnjemndfmbhaaC7
namespace Go.Proofs.Ytacnjemndfmbhaa
open Go.RowKit
theorem aP32 {p : Prop} (h : p := by
    go_wp2
    go_ret
    exact ⟨by first | rfl | (simp [errW_none, errW_some] <;> rfl) | (simp [*, errW_none, errW_some] <;> rfl), by repeat (first | (with_reducible first | exact HB.out | apply below_alloc | apply pw_below_drewN | apply below_drew1 | refine below_set ?_ GE127.out) | exact HB.out)⟩) : p := h
theorem aP101 {p : Prop} (h : p := by repeat (first | (with_reducible first | exact HB.out | apply below_alloc | apply pw_below_drewN | apply below_drew1 | refine below_set ?_ GE127.out) | exact HB.out)) : p := h
theorem aP100 {p : Prop} (h : p := by (with_reducible repeat (first | refine blk_drewN ?_ _ | refine blk_drew ?_ | refine blk_alloc ?_ _)); exact BK127.out) : p := h
theorem aP33 {p : Prop} (h : p := by
    go_ret
    exact ⟨by first | rfl | (simp [errW_none, errW_some] <;> rfl) | (simp [*, errW_none, errW_some] <;> rfl), by repeat (first | (with_reducible first | exact HB.out | apply below_alloc | apply pw_below_drewN | apply below_drew1 | refine below_set ?_ GE127.out) | exact HB.out)⟩) : p := h
theorem aP34 {p : Prop} (h : p := by
    go_roundg gk'
    case measure => omega
    case rel => exact ⟨x, q, .slice A1 l.length c1, l, t ++ c, by first | (with_reducible rfl) | rfl, by first | (with_reducible rfl) | rfl, HA, HX, ⟨by have := HI.out; have := HN.out; have := HCS.out; simp only [ByteArray.size_append]; omega⟩, ⟨(HQ.out.drewN _).text _⟩⟩) : p := h
theorem aP99 {p : Prop} (h : p := by rw [ByteArray.size_extract]; omega) : p := h
theorem aP35 {p : Prop} (h : p := by
    clear hc0 hc1 hf0 hf1 hz0 hz2
    go_wp2
    go_ret
    refine ⟨by rw [HS2.out]; rfl, .slice A2 (l1.length + 1) c2, ?_⟩
    rw [HS2.out]
    exact ⟨HR.out.ge, blk_put HBK.out 0 _ rfl, Kd.R_set (by simpa using HO.out) HBK.out ne53107 0 _, below_set HB.out HR.out.ge⟩) : p := h
theorem aP98 {p : Prop} (h : p := by (with_reducible repeat (first | refine blk_drewN ?_ _ | refine blk_drew ?_ | refine blk_alloc ?_ _)); exact HR.out.blk) : p := h
theorem aP97 {p : Prop} (h : p := by (with_reducible repeat (first | apply Kd.R_alloc | apply Kd.R_drewN | apply Kd.R_drew)); exact HR.out.row) : p := h
theorem aP96 {p : Prop} (h : p := by repeat (first | (with_reducible first | exact HR.out.below | apply below_alloc | apply pw_below_drewN | apply below_drew1) | exact HR.out.below)) : p := h
theorem aP95 {p : Prop} (h : p := by (with_reducible repeat (first | refine blk_drewN ?_ _ | refine blk_drew ?_)); exact blk_second w1 _ _) : p := h
theorem aP94 {p : Prop} (h : p := by simpa [k53, Kd.iso, Kd.pair, Kd.int, Kd.string, Kd.scalar] using hq) : p := h
theorem aP29 {p : Prop} (h : p := by
    go_ret2
    exact ⟨by first | rfl | (simp [errW_none, errW_some] <;> rfl) | (simp [*, errW_none, errW_some] <;> rfl), by repeat (first | (with_reducible first | exact HB.out | apply below_alloc | apply pw_below_drewN | apply below_drew1) | exact HB.out)⟩) : p := h
theorem aP30 {p : Prop} (h : p := by
    clear c5
    simp only [Option.some.injEq, Prod.mk.injEq] at H
    obtain ⟨rfl, rfl⟩ := H
    go_wp2
    go_ret2
    exact ⟨by first | rfl | (simp [errW_none, errW_some] <;> rfl) | (simp [*, errW_none, errW_some] <;> rfl), by repeat (first | (with_reducible first | exact HB.out | apply below_alloc | apply pw_below_drewN | apply below_drew1) | exact HB.out)⟩) : p := h
theorem aP93 {p : Prop} (h : p := by repeat (first | (with_reducible first | exact HB.out | apply below_alloc | apply pw_below_drewN | apply below_drew1 | refine below_set ?_ GE124.out) | exact HB.out)) : p := h
theorem aP31 {p : Prop} (h : p := by
    go_roundg gk'
    case measure => omega
    case rel => exact ⟨q, bs, row ++ c, false, by first | (with_reducible rfl) | rfl, HA, ⟨by have := HI.out; have := HN.out; have := HCS.out; simp only [ByteArray.size_append]; omega⟩, ⟨((HQ.out.drewN _).setRow _).setBare _⟩⟩) : p := h
theorem aP92 {p : Prop} (h : p := by first | (with_reducible rfl) | rfl) : p := h
end Go.Proofs.Ytacnjemndfmbhaa
section
namespace Go.Proofs.Ytacnjemndfmbhaa.Q
open Go.RowKit Go.Proofs.YtacnjemndfmbhaaW.PrintWords Go.Proofs.YtacnjemndfmbhaaW.PrintLast Go.Proofs.YtacnjemndfmbhaaW.PrintMore
attribute [local go_sem] max2_int min2_int max_two min_two max_three min_three max_four min_four   -- for this text's walks alone
set_option linter.unusedVariables false
set_option linter.unusedSimpArgs false
open Go.Shelf in
theorem letter_calls (s : ByteArray) (w : World) (hG : Glob w) :
  Calls Try.prog 90 #[.string s] w fun e w' => e = .returned (.bool (Lib.contains [48, 49, 50, 51, 52, 53, 54, 55, 56, 57, 35, 64, 44, 46, 59, 42] s.data.toList)) ∧ w = w' := by
 obtain ⟨m, hm⟩ := hG
 have HM := aMk hm
 clear hm
 go_enter Try.func90, Try.ntmps90
 go_wp2_with (first | (go_at_call 99; (with_reducible refine (Try.strings_Contains _ s m _ (by decide) HM.out).mono ?_); rintro e w1 ⟨rfl, rfl⟩))
 go_ret
 exact ⟨rfl, rfl⟩
structure QS (w0 w : World) (b r f : Nat) (bs : List UInt8) (row : ByteArray) (bare : Bool) : Prop where
 bu : Lib.IsBuilder 90 5 w0.heap.size b (Lib.byteCells bs) w
 gr : w0.heap.size ≤ r
 gf : w0.heap.size ≤ f
 cr : w.heap[r]? = some (.cells #[.string row] 9 (0, 0))
 cf : w.heap[f]? = some (.cells #[.bool bare] 4 (0, 0))
 below : Below w0.heap.size w0 w
def flushB (bs : List UInt8) (row : ByteArray) (bare : Bool) : List UInt8 := bs ++ (if bare then row.data.toList else [39] ++ row.data.toList ++ [39])
theorem cells_str (bs : List UInt8) (s : ByteArray) : Lib.byteCells bs ++ Lib.strCells s = Lib.byteCells (bs ++ s.data.toList) := by
 simp [Lib.byteCells, Lib.strCells]
theorem QS.keep {w0 w w' : World} {b r f : Nat} {bs bs' : List UInt8} {row : ByteArray} {bare : Bool} (h : QS w0 w b r f bs row bare) (hrb : r ≠ b) (hfb : f ≠ b) (hu : Lib.IsBuilder 90 5 w0.heap.size b (Lib.byteCells bs') w') (hb : Below w0.heap.size w w') (hk : KeepT w w' b) : QS w0 w' b r f bs' row bare :=
 ⟨hu, h.gr, h.gf, hk r _ _ hrb (by decide) h.cr, hk f _ _ hfb (by decide) h.cf, ⟨hb.os.trans h.below.os, hb.tape.trans h.below.tape, hb.output.trans h.below.output, Nat.le_trans h.below.size hb.size, fun k hk => (hb.block k hk).trans (h.below.block k hk)⟩⟩
theorem blk_one {w : World} {g : Nat} {v : Value} {t : TypeId} (h : w.heap[g]? = some (.cells #[v] t (0, 0))) : w.cell? ⟨g, 0, none⟩ = some v ∧ w.frozen? ⟨g, 0, none⟩ = false := ⟨by rw [Lib.cell_of_heap h]; rfl, Lib.frozen_of_heap h 0⟩
theorem heap_set_one {w : World} {g : Nat} {v u : Value} {t : TypeId} (h : w.heap[g]? = some (.cells #[v] t (0, 0))) : (w.setCell ⟨g, 0, none⟩ u).heap[g]? = some (.cells #[u] t (0, 0)) := by
 have := blk_put (w := w) (g := g) (cs := #[v]) (t := t) h 0 u rfl
 exact this
theorem bat_move {w w1 : World} {B b : Nat} {p : Value} {bs : List Value} (h : Lib.BuilderAt 90 5 B b p bs w) (hb : w1.heap[b]? = w.heap[b]?) (hm : ∀ (k : Nat) (cells : Array Value), w.heap[k]? = some (.cells cells 5 (0, 0)) → w1.heap[k]? = w.heap[k]?) : Lib.BuilderAt 90 5 B b p bs w1 := by
 obtain ⟨hB, v, hbk, hown, hne⟩ := h
 exact ⟨hB, v, hb.trans hbk, own_move hown (fun k hk => by obtain ⟨c, hc⟩ := own_typed hown k hk; exact hm k c hc), hne⟩
theorem isb_move {w w1 : World} {B b : Nat} {bs : List Value} (h : Lib.IsBuilder 90 5 B b bs w) (hb : w1.heap[b]? = w.heap[b]?) (hm : ∀ (k : Nat) (cells : Array Value), w.heap[k]? = some (.cells cells 5 (0, 0)) → w1.heap[k]? = w.heap[k]?) : Lib.IsBuilder 90 5 B b bs w1 :=
 h.imp (fun h => bat_move h hb hm) (fun h => bat_move h hb hm)
theorem isb_blk {w : World} {B b : Nat} {bs : List Value} (h : Lib.IsBuilder 90 5 B b bs w) : ∃ cs, w.heap[b]? = some (.cells cs 90 (0, 0)) := by
 rcases h with ⟨_, v, h, _⟩ | ⟨_, v, h, _⟩
 ·exact ⟨_, h⟩
 ·exact ⟨_, h⟩
theorem isb_set {w : World} {B b g t : Nat} {bs : List Value} {cs : Array Value} (h : Lib.IsBuilder 90 5 B b bs w) (hg : w.heap[g]? = some (.cells cs t (0, 0))) (h1 : 90 ≠ t) (h2 : 5 ≠ t) (j : Nat) (u : Value) : Lib.IsBuilder 90 5 B b bs (w.setCell ⟨g, j, none⟩ u) := by
 obtain ⟨cb, hb⟩ := isb_blk h
 exact isb_move h (Below.heap_setCell w ⟨g, j, none⟩ u b (blk_ne hb hg h1)) (fun k c hk => Below.heap_setCell w ⟨g, j, none⟩ u k (blk_ne hk hg h2))
theorem below_trans0 {B : Nat} {w0 w w' : World} (h : Below B w0 w) (hb : Below B w w') : Below B w0 w' :=
 ⟨hb.os.trans h.os, hb.tape.trans h.tape, hb.output.trans h.output, Nat.le_trans h.size hb.size, fun k hk => (hb.block k hk).trans (h.block k hk)⟩
namespace QS
variable {w0 w w' : World} {b r f : Nat} {bs : List UInt8} {row : ByteArray} {bare : Bool}
theorem rb (h : QS w0 w b r f bs row bare) : r ≠ b := by
 obtain ⟨cb, hb⟩ := isb_blk h.bu
 exact blk_ne h.cr hb (by decide)
theorem fb (h : QS w0 w b r f bs row bare) : f ≠ b := by
 obtain ⟨cb, hb⟩ := isb_blk h.bu
 exact blk_ne h.cf hb (by decide)
theorem rf (h : QS w0 w b r f bs row bare) : r ≠ f := blk_ne h.cr h.cf (by decide)
theorem step (h : QS w0 w b r f bs row bare) (hb : Below w.heap.size w w') : QS w0 w' b r f bs row bare := by
 obtain ⟨cb, hbb⟩ := isb_blk h.bu
 exact ⟨isb_move h.bu (hb.block b (blk_lt hbb)) (fun k c hk => hb.block k (blk_lt hk)), h.gr, h.gf, blk_below h.cr hb, blk_below h.cf hb, below_step h.below hb⟩
theorem setRow (h : QS w0 w b r f bs row bare) (x : ByteArray) : QS w0 (w.setCell ⟨r, 0, none⟩ (.string x)) b r f bs x bare :=
 ⟨isb_set h.bu h.cr (by decide) (by decide) 0 _, h.gr, h.gf, heap_set_one h.cr, (Below.heap_setCell w ⟨r, 0, none⟩ _ f (fun e => h.rf e.symm)).trans h.cf, below_set h.below h.gr⟩
theorem setBare (h : QS w0 w b r f bs row bare) (x : Bool) : QS w0 (w.setCell ⟨f, 0, none⟩ (.bool x)) b r f bs row x :=
 ⟨isb_set h.bu h.cf (by decide) (by decide) 0 _, h.gr, h.gf, (Below.heap_setCell w ⟨f, 0, none⟩ _ r h.rf).trans h.cr, heap_set_one h.cf, below_set h.below h.gf⟩
theorem drewN (h : QS w0 w b r f bs row bare) (n : Nat) : QS w0 (w.drewN n) b r f bs row bare := h.step (pw_below_drewN (Below.refl _ _) n)
end QS
set_option maxHeartbeats 2000000 in
set_option maxRecDepth 100000 in
theorem flush_calls (w0 w : World) (b r f : Nat) (bs : List UInt8) (row : ByteArray) (bare : Bool) (h : QS w0 w b r f bs row bare) (hlen : bs.length + row.size + 2 ≤ 140737488355328) :
  Calls Try.prog 88 #[.pointer (some ⟨f, 0, none⟩), .pointer (some ⟨b, 0, none⟩), .pointer (some ⟨r, 0, none⟩)] w fun e w' => e = .returned (.tuple #[]) ∧ QS w0 w' b r f (flushB bs row bare) ⟨#[]⟩ true := by
 have HQ := aMk h
 have HL := aMk hlen
 have HN := aMk (And.intro h.rb h.fb)
 obtain ⟨hr0, hr1⟩ := blk_one h.cr
 obtain ⟨hf0, hf1⟩ := blk_one h.cf
 have hz := below_size h.below
 have HZ := aMk hz
 clear h hlen hz
 cases bare with
 | true =>
  go_enter Try.func88, Try.ntmps88
  go_wp2_with (first | (go_at_call 77; (with_reducible refine (writeString w0.heap.size b (Lib.byteCells bs) row _ HQ.out.bu ?side1 HZ.out).mono ?_); (case side1 => rw [Lib.byteCells_length]; have := HL.out; omega); rintro e w1 ⟨rfl, h1, hb1, hk1⟩; rw [cells_str] at h1; have HQ1 := aMk (HQ.out.keep HN.out.1 HN.out.2 (.inr h1) hb1 hk1); clear hr0 hr1 hf0 hf1; obtain ⟨hr0, hr1⟩ := blk_one HQ1.out.cr; obtain ⟨hf0, hf1⟩ := blk_one HQ1.out.cf; obtain ⟨hg0, hg1⟩ := blk_one (HQ1.out.setRow ⟨#[]⟩).cf; clear h1 hb1 hk1))
  go_end0
  exact ⟨rfl, (HQ1.out.setRow ⟨#[]⟩).setBare true⟩
 | false =>
  have hs : 1 + row.size ≤ 9223372036854775807 := by have := HL.out; omega
  have hs2 : 1 + row.size + 1 ≤ 9223372036854775807 := by have := HL.out; omega
  have hs3 := eq_false (Nat.not_lt.2 hs)
  have hs4 := eq_false (Nat.not_lt.2 hs2)
  go_enter Try.func88, Try.ntmps88
  go_wp2_with (first | (go_at_call 77; (with_reducible refine (writeString w0.heap.size b (Lib.byteCells bs) _ _ HQ.out.bu ?side1 HZ.out).mono ?_); (case side1 => rw [Lib.byteCells_length]; have := HL.out; simp only [ByteArray.size_append, show (⟨#[39]⟩ : ByteArray).size = 1 from rfl]; omega); rintro e w1 ⟨rfl, h1, hb1, hk1⟩; rw [cells_str] at h1; have HQ1 := aMk (HQ.out.keep HN.out.1 HN.out.2 (.inr h1) hb1 hk1); clear hr0 hr1 hf0 hf1; obtain ⟨hr0, hr1⟩ := blk_one HQ1.out.cr; obtain ⟨hf0, hf1⟩ := blk_one HQ1.out.cf; obtain ⟨hg0, hg1⟩ := blk_one (HQ1.out.setRow ⟨#[]⟩).cf; clear h1 hb1 hk1))
  go_end0
  refine ⟨rfl, ?_⟩
  have h2 := (HQ1.out.setRow ⟨#[]⟩).setBare true
  have e : flushB bs row false = bs ++ ((⟨#[39]⟩ : ByteArray) ++ row ++ (⟨#[39]⟩ : ByteArray)).data.toList := by
   simp [flushB]
  rw [e]
  exact h2
def letB (s : ByteArray) : Bool := Lib.contains [48, 49, 50, 51, 52, 53, 54, 55, 56, 57, 35, 64, 44, 46, 59, 42] s.data.toList
def quoteL (s : ByteArray) : Nat → Int → List UInt8 → ByteArray → Bool → Option ByteArray
 | 0, _, _, _, _ => none
 | d + 1, p, bs, row, bare =>
  if p < s.size then (cursor_Rune.f 5 s p).bind fun n =>
   if 0 < n ∧ p + n ≤ s.size then
    if (s.extract p.toNat (p + n).toNat).toList = [39] then quoteL s d (p + n) bs (row ++ ⟨#[39, 39]⟩) bare
    else (affix_kind.f (s.extract p.toNat (p + n).toNat)).bind fun k =>
     if (decide (0 < k) || letB (s.extract p.toNat (p + n).toNat)) = true then quoteL s d (p + n) bs (row ++ s.extract p.toNat (p + n).toNat) false
     else quoteL s d (p + n) (flushB bs row bare ++ (s.extract p.toNat (p + n).toNat).data.toList) ⟨#[]⟩ true
   else none
  else some ⟨(flushB bs row bare).toArray⟩
def affix_quote.f (a0 : ByteArray) : Option ByteArray := if a0.size ≤ 1048576 then quoteL a0 (a0.size + 1) 0 [] ⟨#[]⟩ true else none
theorem flushB_len (bs : List UInt8) (row : ByteArray) (bare : Bool) : (flushB bs row bare).length ≤ bs.length + row.size + 2 := by
 unfold flushB
 have : row.data.toList.length = row.size := by simp
 cases bare <;> simp [this] <;> omega
theorem extract_len (s : ByteArray) (p n : Int) (h0 : 0 ≤ p) (h1 : 0 < n) (h2 : p + n ≤ s.size) : ((s.extract p.toNat (p + n).toNat).size : Int) = n := by
 rw [ByteArray.size_extract]; omega
theorem QS.start (w : World) : QS w (((w.alloc (.cells #[.pointer none, .slice none 0 0] 90)).alloc (.cells #[.string ⟨#[]⟩] 9)).alloc (.cells #[.bool true] 4)) w.heap.size (w.heap.size + 1) (w.heap.size + 1 + 1) [] ⟨#[]⟩ true := by
 have e0 : (w.alloc (.cells #[.pointer none, .slice none 0 0] 90)).heap.size = w.heap.size + 1 := by simp
 have e1 : ((w.alloc (.cells #[.pointer none, .slice none 0 0] 90)).alloc (.cells #[.string ⟨#[]⟩] 9)).heap.size = w.heap.size + 1 + 1 := by simp
 refine ⟨.inl ⟨Nat.le_refl _, .slice none 0 0, ?_, ⟨rfl, .inl ⟨rfl, rfl⟩⟩, by simp [Value.ownBlock]⟩, by omega, by omega, ?_, ?_, ?_⟩
 ·rw [heap_alloc_old _ _ (by omega), heap_alloc_old _ _ (by omega), heap_alloc_new]
 ·rw [heap_alloc_old _ _ (by omega), ← e0, heap_alloc_new]
 ·rw [← e1, heap_alloc_new]
 ·exact below_alloc (below_alloc (below_alloc (Below.refl _ _) _) _) _
set_option maxHeartbeats 8000000 in
set_option maxRecDepth 100000 in
theorem affix_quote.calls (a0 : ByteArray) (r : ByteArray) (w : World) (hG : Glob w) (h : affix_quote.f a0 = some r) :
  Calls Try.prog 75 #[.string a0] w fun e w' => e = .returned (.string r) ∧ Below w.heap.size w w' := by
 unfold affix_quote.f at h
 by_cases hsz : a0.size ≤ 1048576
 case neg => rw [if_neg hsz] at h; exact absurd h (by simp)
 rw [if_pos hsz] at h
 have HS := aMk hsz
 have HG := aMk hG
 have H' := aMk h
 clear hsz hG h
 go_enter Try.func75, Try.ntmps75
 go_wp2
 go_loopg [7, 8, 9] (a0.size + 1) (fun gk v7 v8 v9 wr => ∃ (p : Int) (bs : List UInt8) (row : ByteArray) (bare : Bool), v7 = .int .i64 p ∧ Aside0 (quoteL a0 gk p bs row bare = some r) ∧ Aside0 (0 ≤ p ∧ p ≤ a0.size ∧ (bs.length : Int) + row.size ≤ 3 * p) ∧ Aside0 (QS w wr w.heap.size (w.heap.size + 1) (w.heap.size + 1 + 1) bs row bare))
 case atStart => exact ⟨0, [], ⟨#[]⟩, true, rfl, H', ⟨⟨Int.le_refl _, by omega, by decide⟩⟩, ⟨QS.start w⟩⟩
 case round =>
  clear H'
  obtain ⟨p, bs, row, bare, rfl, HA, HI, HQ⟩ := hrel
  cases gk with
  | zero => exact absurd HA.out (by simp [quoteL])
  | succ gk' =>
   have H := HA.out
   clear HA
   simp only [quoteL] at H
   obtain ⟨hr0, hr1⟩ := blk_one HQ.out.cr
   obtain ⟨hf0, hf1⟩ := blk_one HQ.out.cf
   by_cases hlt : p < a0.size
   case neg =>
    rw [if_neg hlt] at H
    obtain rfl := Option.some.inj H
    have hd : decide (p < (a0.size : Int)) = false := dFa hlt
    clear H hlt
    have HQD := HQ
    go_wp2_with (first | (go_at_call 88; (with_reducible refine (flush_calls w _ w.heap.size (w.heap.size + 1) (w.heap.size + 1 + 1) bs row bare HQD.out ?side1).mono ?_); (case side1 => have := HI.out; have := HS.out; omega); rintro e w2 ⟨rfl, hq2⟩; have HQF := aMk hq2; clear hq2) | (go_at_call 78; (with_reducible refine (Try.Builder_String_any w.heap.size w.heap.size (flushB bs row bare) _ HQF.out.bu (below_size HQF.out.below)).mono ?_); rintro e w4 ⟨rfl, hb4⟩; have HB4 := aMk hb4; clear hb4))
    go_ret
    exact ⟨rfl, below_trans0 HQF.out.below HB4.out⟩
   rw [if_pos hlt] at H
   have hd : decide (p < (a0.size : Int)) = true := dTr hlt
   replace H := Option.bind_eq_some_iff.mp H
   obtain ⟨n, hrn, H⟩ := H
   have HRN := aMk hrn
   clear hrn hlt
   by_cases hn : 0 < n ∧ p + n ≤ a0.size
   case neg => rw [if_neg hn] at H; exact absurd H (by simp)
   rw [if_pos hn] at H
   obtain ⟨q, hq⟩ : ∃ q : Int, p + n = q := ⟨_, rfl⟩
   have HCS := aMk (show ((a0.extract p.toNat q.toNat).size : Int) = n by rw [← hq]; exact extract_len a0 p n HI.out.1 hn.1 hn.2)
   rw [hq] at H
   have hqw : IntKind.i64.wrap (p + n) = q := by rw [hq]; exact IntWalk.i64_in _ (by have := HI.out; have := HS.out; omega)
   have hqw2 : wrap64 (p + n) = q := (i64_w _).symm.trans hqw
   have hp0 : 0 ≤ p := HI.out.1
   have hpq : p ≤ q := by omega
   have hq0 : 0 ≤ q := by omega
   have hqs : q ≤ (a0.size : Int) := by omega
   have hpq2 : p.toNat ≤ q.toNat := by omega
   have hqs2 : q.toNat ≤ a0.size := by omega
   have HN := aMk (show 0 < n ∧ p + n = q from ⟨hn.1, hq⟩)
   clear hn hq
   obtain ⟨c, hc⟩ : ∃ c, a0.extract p.toNat q.toNat = c := ⟨_, rfl⟩
   rw [hc] at H HCS
   have HCC := aMk hc
   replace hp0 := eq_true hp0
   have hr2 : row.size + 2 ≤ 9223372036854775807 := by have := HI.out; have := HS.out; omega
   have hr3 : row.size + c.size ≤ 9223372036854775807 := by have := HI.out; have := HS.out; have := HCS.out; have := HN.out; omega
   have hr4 := eq_false (Nat.not_lt.2 hr2)
   have hr5 := eq_false (Nat.not_lt.2 hr3)
   by_cases h39 : c.toList = [39]
   ·rw [if_pos h39] at H
    have e1 : (c.toList == ([39] : List UInt8)) = true := beT h39
    have e2 : (c.toList != ([39] : List UInt8)) = false := bnF h39
    have HA := aMk H
    clear H
    go_wp2_with (first | (go_at_call 62; (with_reducible refine (cursor_Rune.calls 5 a0 p n _ HRN.out).mono ?_); rintro e w' ⟨rfl, ⟨nd, rfl⟩⟩))
    go_roundg gk'
    case measure => omega
    case rel => exact ⟨q, bs, row ++ ⟨#[39, 39]⟩, bare, aP92, HA, ⟨by have := HI.out; have := HN.out; simp only [ByteArray.size_append, show (⟨#[39, 39]⟩ : ByteArray).size = 2 from rfl]; omega⟩, ⟨(HQ.out.drewN _).setRow _⟩⟩
   rw [if_neg h39] at H
   have e1 : (c.toList == ([39] : List UInt8)) = false := beF h39
   have e2 : (c.toList != ([39] : List UInt8)) = true := bnT h39
   replace H := Option.bind_eq_some_iff.mp H
   obtain ⟨k, hk, H⟩ := H
   have HKD := aMk hk
   clear hk h39
   by_cases hkp : 0 < k
   ·have hk1 : decide (k > 0) = true := dTr hkp
    have hk2 : decide (0 < k) = true := dTr hkp
    rw [hk2, Bool.true_or, if_pos rfl] at H
    have HA := aMk H
    clear H hkp
    go_wp2_with (first | (go_at_call 62; (with_reducible refine (cursor_Rune.calls 5 a0 p n _ HRN.out).mono ?_); rintro e w' ⟨rfl, ⟨nd, rfl⟩⟩) | (go_at_call 89; (with_reducible refine (affix_kind.calls c k _ HKD.out).mono ?_); rintro e w' ⟨rfl, ⟨nd2, rfl⟩⟩))
    exact aP31
   have hk1 : decide (k > 0) = false := dFa hkp
   have hk2 : decide (0 < k) = false := dFa hkp
   rw [hk2, Bool.false_or] at H
   clear hkp
   by_cases hl : letB c = true
   ·rw [if_pos hl] at H
    have HA := aMk H
    have hl2 : Lib.contains [48, 49, 50, 51, 52, 53, 54, 55, 56, 57, 35, 64, 44, 46, 59, 42] c.data.toList = true := hl
    clear H hl
    go_wp2_with (first | (go_at_call 62; (with_reducible refine (cursor_Rune.calls 5 a0 p n _ HRN.out).mono ?_); rintro e w' ⟨rfl, ⟨nd, rfl⟩⟩) | (go_at_call 89; (with_reducible refine (affix_kind.calls c k _ HKD.out).mono ?_); rintro e w' ⟨rfl, ⟨nd2, rfl⟩⟩) | (go_at_call 90; (with_reducible refine (letter_calls c _ (Glob_below HG.out (pw_below_drewN HQ.out.below _))).mono ?_); rintro e w' ⟨rfl, rfl⟩))
    exact aP31
   ·rw [if_neg hl] at H
    have HA := aMk H
    have hl2 : Lib.contains [48, 49, 50, 51, 52, 53, 54, 55, 56, 57, 35, 64, 44, 46, 59, 42] c.data.toList = false := Bool.eq_false_iff.mpr hl
    clear H hl
    have HQD := aMk (fun m1 => HQ.out.drewN m1)
    go_wp2_with (first | (go_at_call 62; (with_reducible refine (cursor_Rune.calls 5 a0 p n _ HRN.out).mono ?_); rintro e w' ⟨rfl, ⟨nd, rfl⟩⟩) | (go_at_call 89; (with_reducible refine (affix_kind.calls c k _ HKD.out).mono ?_); rintro e w' ⟨rfl, ⟨nd2, rfl⟩⟩) | (go_at_call 90; (with_reducible refine (letter_calls c _ (Glob_below HG.out (pw_below_drewN HQ.out.below _))).mono ?_); rintro e w' ⟨rfl, rfl⟩) | (go_at_call 88; (with_reducible refine (flush_calls w _ w.heap.size (w.heap.size + 1) (w.heap.size + 1 + 1) bs row bare (HQD.out _) ?side1).mono ?_); (case side1 => have := HI.out; have := HS.out; omega); rintro e w2 ⟨rfl, hq2⟩; have HQF := aMk hq2; clear hq2) | (go_at_call 77; (with_reducible refine (writeString w.heap.size w.heap.size (Lib.byteCells (flushB bs row bare)) c _ HQF.out.bu ?side1 (below_size HQF.out.below)).mono ?_); (case side1 => rw [Lib.byteCells_length]; have := HI.out; have := HS.out; have := HCS.out; have := HN.out; have := flushB_len bs row bare; omega); rintro e w3 ⟨rfl, h1, hb1, hk1⟩; rw [cells_str] at h1; have HQW := aMk (HQF.out.keep HQF.out.rb HQF.out.fb (.inr h1) hb1 hk1); clear h1 hb1 hk1))
    go_roundg gk'
    case measure => omega
    case rel => exact ⟨q, flushB bs row bare ++ c.data.toList, ⟨#[]⟩, true, aP92, HA, ⟨by have := HI.out; have := HN.out; have := HCS.out; have := flushB_len bs row bare; have e_ : c.data.toList.length = c.size := (by simp); rw [List.length_append, e_]; simp only [show (⟨#[]⟩ : ByteArray).size = 0 from rfl]; omega⟩, HQW⟩
def strings_Repeat.f (a0 : ByteArray) (a1 : Int) : Option ByteArray := if 0 ≤ a1 ∧ a1 ≤ 9223372036854775807 ∧ a0.size * a1.toNat ≤ 140737488355328 then some ⟨(Lib.repeatL a0.data.toList a1.toNat).toArray⟩ else none
theorem strings_Repeat.calls (a0 : ByteArray) (a1 : Int) (r : ByteArray) (w : World) (h : strings_Repeat.f a0 a1 = some r) :
  Calls Try.prog 76 #[.string a0, .int .i64 a1] w fun e w' => e = .returned (.string r) ∧ Below w.heap.size w w' := by
 unfold strings_Repeat.f at h
 by_cases c : 0 ≤ a1 ∧ a1 ≤ 9223372036854775807 ∧ a0.size * a1.toNat ≤ 140737488355328
 ·rw [if_pos c] at h
  obtain rfl := Option.some.inj h
  obtain ⟨n, rfl⟩ : ∃ n : Nat, a1 = n := ⟨a1.toNat, by omega⟩
  have h1 := c.2.2
  rw [Int.toNat_natCast] at h1
  exact Try.strings_Repeat a0 n w (by omega) h1
 ·rw [if_neg c] at h; exact absurd h (by simp)
def affix_Print.l0 : Nat → ByteArray → List (S53) → Int → Int → Option (ByteArray × Int)
 | 0, _, _, _, _ => none
 | k + 1, x5, x13, x14, x15 => if x15 < x14 then (if 0 ≤ x15 then (if x15 < (x13.length : Int) then (if ((rd_T53 x13 x15).f0) = 0 then ((affix_quote.f ((rd_T53 x13 x15).f2)).bind fun t125 => (if x5.size + t125.size ≤ 9223372036854775807 then (affix_Print.l0 k (x5 ++ t125) x13 x14 (wrap64 (x15 + 1))) else (none))) else (if ((rd_T53 x13 x15).f0) = 1 then (if x5.size + 1 ≤ 9223372036854775807 then (affix_Print.l0 k (x5 ++ (⟨#[45]⟩ : ByteArray)) x13 x14 (wrap64 (x15 + 1))) else (none)) else (if ((rd_T53 x13 x15).f0) = 2 then (if x5.size + 1 ≤ 9223372036854775807 then (affix_Print.l0 k (x5 ++ (⟨#[43]⟩ : ByteArray)) x13 x14 (wrap64 (x15 + 1))) else (none)) else (if ((rd_T53 x13 x15).f0) = 3 then (if x5.size + 1 ≤ 9223372036854775807 then (affix_Print.l0 k (x5 ++ (⟨#[37]⟩ : ByteArray)) x13 x14 (wrap64 (x15 + 1))) else (none)) else (if ((rd_T53 x13 x15).f0) = 4 then (if x5.size + 3 ≤ 9223372036854775807 then (affix_Print.l0 k (x5 ++ (⟨#[226, 128, 176]⟩ : ByteArray)) x13 x14 (wrap64 (x15 + 1))) else (none)) else ((strings_Repeat.f (⟨#[194, 164]⟩ : ByteArray) ((rd_T53 x13 x15).f1)).bind fun t126 => (if x5.size + t126.size ≤ 9223372036854775807 then (affix_Print.l0 k (x5 ++ t126) x13 x14 (wrap64 (x15 + 1))) else (none)))))))) else (none)) else (none)) else (some (x5, 0))
def affix_Print.f (k : Nat) (l0 : List (S53)) : Option (ByteArray × Int) := (affix_Check.f k l0).bind fun t122 => (if t122 = 0 then (affix_Print.l0 k (⟨#[]⟩ : ByteArray) l0 (l0.length : Int) 0) else (some ((⟨#[]⟩ : ByteArray), t122)))
set_option maxHeartbeats 8000000 in
set_option maxRecDepth 100000 in
theorem affix_Print.calls (k : Nat) (A0 : Option Addr) (c0 : Nat) (l0 : List (S53)) (r1 : ByteArray) (r2 : Int) (w : World) (hG : Glob w) (hr0 : Kd.C k53 w A0 l0.length l0) (hc0 : l0.length ≤ c0) (h : affix_Print.f k l0 = some (r1, r2)) :
  Calls Try.prog 53 #[.slice A0 l0.length c0] w fun e w' => e = .returned (.tuple #[.string r1, .int .i64 r2]) ∧ Below w.heap.size w w' := by
 have hu53 := Try.underlying53
 have HR0 := aMk hr0
 have HC0 := aMk hc0
 clear hr0 hc0
 have HB := aMk (Below.refl w.heap.size w)
 have HG := aMk hG
 clear hG
 have H : ((affix_Check.f k l0).bind fun t122 => (if t122 = 0 then (affix_Print.l0 k (⟨#[]⟩ : ByteArray) l0 (l0.length : Int) 0) else (some ((⟨#[]⟩ : ByteArray), t122)))) = some (r1, r2) := h
 clear h
 replace H := Option.bind_eq_some_iff.mp H
 obtain ⟨t122, A20, H⟩ := H
 replace H : (if t122 = 0 then (affix_Print.l0 k (⟨#[]⟩ : ByteArray) l0 (l0.length : Int) 0) else (some ((⟨#[]⟩ : ByteArray), t122))) = some (r1, r2) := H
 have A2 := aMk A20
 clear A20
 by_cases c3 : t122 = 0
 ·rw [if_pos c3] at H
  have c3b0 : (t122 == 0) = true := beT c3
  have c3b1 : (t122 != 0) = false := bnF c3
  clear c3
  have H' := aMk H
  clear H
  go_enter Try.func53, Try.ntmps53
  go_wp2_with (first | ((with_reducible refine gate_callee (f := 33) rfl ?_); refine goesL_ (some 9) rfl rfl Try.func33 (by kernel_rfl) rfl #[.slice A0 l0.length c0] rfl (aP76) ?_; (with_reducible refine (affix_Check.calls k _ _ l0 t122 _ ?side1 ?side2 A2.out).mono ?_); (case side1 => repeat (first | exact HR0.out | (with_reducible refine Kd.C_alloc ?_ _) | (with_reducible refine Kd.C_drewN ?_ _) | (with_reducible refine Kd.C_drew ?_))); (case side2 => exact HC0.out); rintro e w4 ⟨rfl, hb⟩; refine ⟨_, rfl, ?_⟩; have n0_ := aMk (below_step (aP80) hb); clear HB; have HB := n0_; clear n0_; (try clear hb); (try clear hb2); (try clear hk); (try clear hi)))
  go_loopg [5, 15] k (fun kq v5 v15 w' => ∃ (x5_1 : ByteArray) (x15_1 : Int), v5 = .string x5_1 ∧ v15 = .int .i64 x15_1 ∧ Aside0 (affix_Print.l0 kq x5_1 l0 (l0.length : Int) x15_1 = some (r1, r2)) ∧ Aside0 (kq ≤ k) ∧ Aside0 (Below w.heap.size w w'))
  case atStart => exact ⟨((⟨#[]⟩ : ByteArray)), (0), (aP77), (aP77), H', ⟨Nat.le_refl _⟩, ⟨aP80⟩⟩
  case round =>
   clear H'
   try clear p2
   try clear c3
   try clear c3b0
   try clear c3b1
   obtain ⟨x5_1, x15_1, rfl, rfl, HA, HK1, HB⟩ := hrel
   cases gk with
   | zero => exact absurd HA.out (by simp [affix_Print.l0])
   | succ k1 =>
    have H := HA.out
    clear HA
    simp only [affix_Print.l0] at H
    by_cases c5 : x15_1 < (l0.length : Int)
    ·rw [if_pos c5] at H
     have c5b0 : decide (x15_1 < (l0.length : Int)) = true := dTr c5
     clear c5
     by_cases c6 : 0 ≤ x15_1
     ·rw [if_pos c6] at H
      have c6b0 : decide (0 ≤ x15_1) = true := dTr c6
      clear c6
      by_cases c7 : x15_1 < (l0.length : Int)
      ·rw [if_pos c7] at H
       have c7b0 : decide (x15_1 < (l0.length : Int)) = true := dTr c7
       clear c7
       by_cases c8 : ((rd_T53 l0 x15_1).f0) = 0
       ·rw [if_pos c8] at H
        have c8b0 : (((rd_T53 l0 x15_1).f0) == 0) = true := beT c8
        have c8b1 : (((rd_T53 l0 x15_1).f0) != 0) = false := bnF c8
        clear c8
        replace H := Option.bind_eq_some_iff.mp H
        obtain ⟨t125, A90, H⟩ := H
        replace H : (if x5_1.size + t125.size ≤ 9223372036854775807 then (affix_Print.l0 k1 (x5_1 ++ t125) l0 (l0.length : Int) (wrap64 (x15_1 + 1))) else (none)) = some (r1, r2) := H
        have A9 := aMk A90
        clear A90
        by_cases c10 : x5_1.size + t125.size ≤ 9223372036854775807
        ·rw [if_pos c10] at H
         have c10b0 := eq_true c10
         have c10b1 : decide (x5_1.size + t125.size ≤ 9223372036854775807) = true := dTr c10
         try have c10b2 : (9223372036854775807 < x5_1.size + t125.size) = False := eq_false (Nat.not_lt.2 c10)
         have H' := aMk H
         clear H
         have p123 : 0 ≤ (x15_1 : Int) := of_decide_eq_true (aP75)
         have q123 : x15_1 < (l0.length : Int) := of_decide_eq_true (aP75)
         obtain ⟨ad123, e123, hx123_0, hx123_1, hx123_2⟩ := at_T53 HR0.out x15_1 p123 q123
         cases e123
         replace hx123_0 := (HB.out.cell (World.block_lt_of_cell? w _ hx123_0)).trans hx123_0
         replace hx123_1 := (HB.out.cell (World.block_lt_of_cell? w _ hx123_1)).trans hx123_1
         replace hx123_2 := (HB.out.cell (World.block_lt_of_cell? w _ hx123_2)).trans hx123_2
         replace p123 := eq_true p123
         replace q123 := eq_true q123
         go_wp2_with (first | ((with_reducible refine gate_dst (N := 7) rfl ?_); refine box_event ?hg (N := 7) ?hd (cs := #[.int .i64 0, .int .i64 0, .string (⟨#[]⟩ : ByteArray)]) (t := 53) ?hr ?_; (case hd => rfl); (case hg => rfl); (case hr => first | (go_simp; done) | (go_simp; rfl)); intro gb124 hg w11 hbox hb; have n0_ := aMk (below_step (aP80) hb); have n1_ := aMk (hbox); have n2_ := aMk ((aP81 : w.heap.size ≤ gb124)); have n3_ := aMk ((aP81 : w.heap.size ≤ gb124)); clear HB; have HB := n0_; have BK124 := n1_; have GW124 := n2_; have GE124 := n3_; clear n0_ n1_ n2_ n3_; clear hb hbox hg; have hcz12_0 : w11.cell? ⟨gb124, 0, none⟩ = some (.int .i64 0) := (blk_cell BK124.out 0).trans rfl; have hcz12_1 : w11.cell? ⟨gb124, 1, none⟩ = some (.int .i64 0) := (blk_cell BK124.out 1).trans rfl; have hcz12_2 : w11.cell? ⟨gb124, 2, none⟩ = some (.string (⟨#[]⟩ : ByteArray)) := (blk_cell BK124.out 2).trans rfl; have hfz12_0 := blk_frozen BK124.out 0; have hfz12_1 := blk_frozen BK124.out 1; have hfz12_2 := blk_frozen BK124.out 2) | ((with_reducible refine gate_callee (f := 75) rfl ?_); refine goesL_ (some 31) rfl rfl Try.func75 (by kernel_rfl) rfl #[.string ((rd_T53 l0 x15_1).f2)] rfl (aP76) ?_; (with_reducible refine (affix_quote.calls ((rd_T53 l0 x15_1).f2) t125 _ ?side1 A9.out).mono ?_); (case side1 => exact Glob_below HG.out (aP93)); rintro e w13 ⟨rfl, hb⟩; refine ⟨_, rfl, ?_⟩; have n0_ := aMk (blk_below (g := gb124) (o := .cells #[.int .i64 ((rd_T53 l0 x15_1).f0), .int .i64 ((rd_T53 l0 x15_1).f1), .string ((rd_T53 l0 x15_1).f2)] 53 (0, 0)) (by (with_reducible repeat (first | refine blk_drewN ?_ _ | refine blk_drew ?_ | refine blk_alloc ?_ _)); refine blk_put (cs := #[.int .i64 ((rd_T53 l0 x15_1).f0), .int .i64 ((rd_T53 l0 x15_1).f1), .string (⟨#[]⟩ : ByteArray)]) ?_ 2 _ rfl; (with_reducible repeat (first | refine blk_drewN ?_ _ | refine blk_drew ?_ | refine blk_alloc ?_ _)); refine blk_put (cs := #[.int .i64 ((rd_T53 l0 x15_1).f0), .int .i64 0, .string (⟨#[]⟩ : ByteArray)]) ?_ 1 _ rfl; (with_reducible repeat (first | refine blk_drewN ?_ _ | refine blk_drew ?_ | refine blk_alloc ?_ _)); refine blk_put (cs := #[.int .i64 0, .int .i64 0, .string (⟨#[]⟩ : ByteArray)]) ?_ 0 _ rfl; (with_reducible repeat (first | refine blk_drewN ?_ _ | refine blk_drew ?_ | refine blk_alloc ?_ _)); exact BK124.out) hb); have n1_ := aMk (below_step (aP93) hb); clear BK124; clear HB; have BK124 := n0_; have HB := n1_; clear n0_ n1_; (try clear hb); (try clear hb2); (try clear hk); (try clear hi)))
         go_roundg k1
         case measure => have := HK1.out; omega
         case rel => exact ⟨(x5_1 ++ t125), (wrap64 (x15_1 + 1)), (aP77), (aP77), H', ⟨by have := HK1.out; omega⟩, ⟨aP93⟩⟩
        ·rw [if_neg c10] at H
         exact absurd H (by simp)
       ·rw [if_neg c8] at H
        have c8b0 : (((rd_T53 l0 x15_1).f0) == 0) = false := beF c8
        have c8b1 : (((rd_T53 l0 x15_1).f0) != 0) = true := bnT c8
        by_cases c14 : ((rd_T53 l0 x15_1).f0) = 1
        ·rw [if_pos c14] at H
         have c14b0 : (((rd_T53 l0 x15_1).f0) == 1) = true := beT c14
         have c14b1 : (((rd_T53 l0 x15_1).f0) != 1) = false := bnF c14
         clear c14
         by_cases c15 : x5_1.size + 1 ≤ 9223372036854775807
         ·rw [if_pos c15] at H
          have c15b0 := eq_true c15
          have c15b1 : decide (x5_1.size + 1 ≤ 9223372036854775807) = true := dTr c15
          try have c15b2 : (9223372036854775807 < x5_1.size + 1) = False := eq_false (Nat.not_lt.2 c15)
          have H' := aMk H
          clear H
          have p123 : 0 ≤ (x15_1 : Int) := of_decide_eq_true (aP75)
          have q123 : x15_1 < (l0.length : Int) := of_decide_eq_true (aP75)
          obtain ⟨ad123, e123, hx123_0, hx123_1, hx123_2⟩ := at_T53 HR0.out x15_1 p123 q123
          cases e123
          replace hx123_0 := (HB.out.cell (World.block_lt_of_cell? w _ hx123_0)).trans hx123_0
          replace hx123_1 := (HB.out.cell (World.block_lt_of_cell? w _ hx123_1)).trans hx123_1
          replace hx123_2 := (HB.out.cell (World.block_lt_of_cell? w _ hx123_2)).trans hx123_2
          replace p123 := eq_true p123
          replace q123 := eq_true q123
          go_wp2_with (first | ((with_reducible refine gate_dst (N := 7) rfl ?_); refine box_event ?hg (N := 7) ?hd (cs := #[.int .i64 0, .int .i64 0, .string (⟨#[]⟩ : ByteArray)]) (t := 53) ?hr ?_; (case hd => rfl); (case hg => rfl); (case hr => first | (go_simp; done) | (go_simp; rfl)); intro gb124 hg w16 hbox hb; have n0_ := aMk (below_step (aP80) hb); have n1_ := aMk (hbox); have n2_ := aMk ((aP81 : w.heap.size ≤ gb124)); have n3_ := aMk ((aP81 : w.heap.size ≤ gb124)); clear HB; have HB := n0_; have BK124 := n1_; have GW124 := n2_; have GE124 := n3_; clear n0_ n1_ n2_ n3_; clear hb hbox hg; have hcz17_0 : w16.cell? ⟨gb124, 0, none⟩ = some (.int .i64 0) := (blk_cell BK124.out 0).trans rfl; have hcz17_1 : w16.cell? ⟨gb124, 1, none⟩ = some (.int .i64 0) := (blk_cell BK124.out 1).trans rfl; have hcz17_2 : w16.cell? ⟨gb124, 2, none⟩ = some (.string (⟨#[]⟩ : ByteArray)) := (blk_cell BK124.out 2).trans rfl; have hfz17_0 := blk_frozen BK124.out 0; have hfz17_1 := blk_frozen BK124.out 1; have hfz17_2 := blk_frozen BK124.out 2))
          go_roundg k1
          case measure => have := HK1.out; omega
          case rel => exact ⟨(x5_1 ++ (⟨#[45]⟩ : ByteArray)), (wrap64 (x15_1 + 1)), (aP77), (aP77), H', ⟨by have := HK1.out; omega⟩, ⟨aP93⟩⟩
         ·rw [if_neg c15] at H
          exact absurd H (by simp)
        ·rw [if_neg c14] at H
         have c14b0 : (((rd_T53 l0 x15_1).f0) == 1) = false := beF c14
         have c14b1 : (((rd_T53 l0 x15_1).f0) != 1) = true := bnT c14
         by_cases c18 : ((rd_T53 l0 x15_1).f0) = 2
         ·rw [if_pos c18] at H
          have c18b0 : (((rd_T53 l0 x15_1).f0) == 2) = true := beT c18
          have c18b1 : (((rd_T53 l0 x15_1).f0) != 2) = false := bnF c18
          clear c18
          by_cases c19 : x5_1.size + 1 ≤ 9223372036854775807
          ·rw [if_pos c19] at H
           have c19b0 := eq_true c19
           have c19b1 : decide (x5_1.size + 1 ≤ 9223372036854775807) = true := dTr c19
           try have c19b2 : (9223372036854775807 < x5_1.size + 1) = False := eq_false (Nat.not_lt.2 c19)
           have H' := aMk H
           clear H
           have p123 : 0 ≤ (x15_1 : Int) := of_decide_eq_true (aP75)
           have q123 : x15_1 < (l0.length : Int) := of_decide_eq_true (aP75)
           obtain ⟨ad123, e123, hx123_0, hx123_1, hx123_2⟩ := at_T53 HR0.out x15_1 p123 q123
           cases e123
           replace hx123_0 := (HB.out.cell (World.block_lt_of_cell? w _ hx123_0)).trans hx123_0
           replace hx123_1 := (HB.out.cell (World.block_lt_of_cell? w _ hx123_1)).trans hx123_1
           replace hx123_2 := (HB.out.cell (World.block_lt_of_cell? w _ hx123_2)).trans hx123_2
           replace p123 := eq_true p123
           replace q123 := eq_true q123
           go_wp2_with (first | ((with_reducible refine gate_dst (N := 7) rfl ?_); refine box_event ?hg (N := 7) ?hd (cs := #[.int .i64 0, .int .i64 0, .string (⟨#[]⟩ : ByteArray)]) (t := 53) ?hr ?_; (case hd => rfl); (case hg => rfl); (case hr => first | (go_simp; done) | (go_simp; rfl)); intro gb124 hg w20 hbox hb; have n0_ := aMk (below_step (aP80) hb); have n1_ := aMk (hbox); have n2_ := aMk ((aP81 : w.heap.size ≤ gb124)); have n3_ := aMk ((aP81 : w.heap.size ≤ gb124)); clear HB; have HB := n0_; have BK124 := n1_; have GW124 := n2_; have GE124 := n3_; clear n0_ n1_ n2_ n3_; clear hb hbox hg; have hcz21_0 : w20.cell? ⟨gb124, 0, none⟩ = some (.int .i64 0) := (blk_cell BK124.out 0).trans rfl; have hcz21_1 : w20.cell? ⟨gb124, 1, none⟩ = some (.int .i64 0) := (blk_cell BK124.out 1).trans rfl; have hcz21_2 : w20.cell? ⟨gb124, 2, none⟩ = some (.string (⟨#[]⟩ : ByteArray)) := (blk_cell BK124.out 2).trans rfl; have hfz21_0 := blk_frozen BK124.out 0; have hfz21_1 := blk_frozen BK124.out 1; have hfz21_2 := blk_frozen BK124.out 2))
           go_roundg k1
           case measure => have := HK1.out; omega
           case rel => exact ⟨(x5_1 ++ (⟨#[43]⟩ : ByteArray)), (wrap64 (x15_1 + 1)), (aP77), (aP77), H', ⟨by have := HK1.out; omega⟩, ⟨aP93⟩⟩
          ·rw [if_neg c19] at H
           exact absurd H (by simp)
         ·rw [if_neg c18] at H
          have c18b0 : (((rd_T53 l0 x15_1).f0) == 2) = false := beF c18
          have c18b1 : (((rd_T53 l0 x15_1).f0) != 2) = true := bnT c18
          by_cases c22 : ((rd_T53 l0 x15_1).f0) = 3
          ·rw [if_pos c22] at H
           have c22b0 : (((rd_T53 l0 x15_1).f0) == 3) = true := beT c22
           have c22b1 : (((rd_T53 l0 x15_1).f0) != 3) = false := bnF c22
           clear c22
           by_cases c23 : x5_1.size + 1 ≤ 9223372036854775807
           ·rw [if_pos c23] at H
            have c23b0 := eq_true c23
            have c23b1 : decide (x5_1.size + 1 ≤ 9223372036854775807) = true := dTr c23
            try have c23b2 : (9223372036854775807 < x5_1.size + 1) = False := eq_false (Nat.not_lt.2 c23)
            have H' := aMk H
            clear H
            have p123 : 0 ≤ (x15_1 : Int) := of_decide_eq_true (aP75)
            have q123 : x15_1 < (l0.length : Int) := of_decide_eq_true (aP75)
            obtain ⟨ad123, e123, hx123_0, hx123_1, hx123_2⟩ := at_T53 HR0.out x15_1 p123 q123
            cases e123
            replace hx123_0 := (HB.out.cell (World.block_lt_of_cell? w _ hx123_0)).trans hx123_0
            replace hx123_1 := (HB.out.cell (World.block_lt_of_cell? w _ hx123_1)).trans hx123_1
            replace hx123_2 := (HB.out.cell (World.block_lt_of_cell? w _ hx123_2)).trans hx123_2
            replace p123 := eq_true p123
            replace q123 := eq_true q123
            go_wp2_with (first | ((with_reducible refine gate_dst (N := 7) rfl ?_); refine box_event ?hg (N := 7) ?hd (cs := #[.int .i64 0, .int .i64 0, .string (⟨#[]⟩ : ByteArray)]) (t := 53) ?hr ?_; (case hd => rfl); (case hg => rfl); (case hr => first | (go_simp; done) | (go_simp; rfl)); intro gb124 hg w24 hbox hb; have n0_ := aMk (below_step (aP80) hb); have n1_ := aMk (hbox); have n2_ := aMk ((aP81 : w.heap.size ≤ gb124)); have n3_ := aMk ((aP81 : w.heap.size ≤ gb124)); clear HB; have HB := n0_; have BK124 := n1_; have GW124 := n2_; have GE124 := n3_; clear n0_ n1_ n2_ n3_; clear hb hbox hg; have hcz25_0 : w24.cell? ⟨gb124, 0, none⟩ = some (.int .i64 0) := (blk_cell BK124.out 0).trans rfl; have hcz25_1 : w24.cell? ⟨gb124, 1, none⟩ = some (.int .i64 0) := (blk_cell BK124.out 1).trans rfl; have hcz25_2 : w24.cell? ⟨gb124, 2, none⟩ = some (.string (⟨#[]⟩ : ByteArray)) := (blk_cell BK124.out 2).trans rfl; have hfz25_0 := blk_frozen BK124.out 0; have hfz25_1 := blk_frozen BK124.out 1; have hfz25_2 := blk_frozen BK124.out 2))
            go_roundg k1
            case measure => have := HK1.out; omega
            case rel => exact ⟨(x5_1 ++ (⟨#[37]⟩ : ByteArray)), (wrap64 (x15_1 + 1)), (aP77), (aP77), H', ⟨by have := HK1.out; omega⟩, ⟨aP93⟩⟩
           ·rw [if_neg c23] at H
            exact absurd H (by simp)
          ·rw [if_neg c22] at H
           have c22b0 : (((rd_T53 l0 x15_1).f0) == 3) = false := beF c22
           have c22b1 : (((rd_T53 l0 x15_1).f0) != 3) = true := bnT c22
           by_cases c26 : ((rd_T53 l0 x15_1).f0) = 4
           ·rw [if_pos c26] at H
            have c26b0 : (((rd_T53 l0 x15_1).f0) == 4) = true := beT c26
            have c26b1 : (((rd_T53 l0 x15_1).f0) != 4) = false := bnF c26
            clear c26
            by_cases c27 : x5_1.size + 3 ≤ 9223372036854775807
            ·rw [if_pos c27] at H
             have c27b0 := eq_true c27
             have c27b1 : decide (x5_1.size + 3 ≤ 9223372036854775807) = true := dTr c27
             try have c27b2 : (9223372036854775807 < x5_1.size + 3) = False := eq_false (Nat.not_lt.2 c27)
             have H' := aMk H
             clear H
             have p123 : 0 ≤ (x15_1 : Int) := of_decide_eq_true (aP75)
             have q123 : x15_1 < (l0.length : Int) := of_decide_eq_true (aP75)
             obtain ⟨ad123, e123, hx123_0, hx123_1, hx123_2⟩ := at_T53 HR0.out x15_1 p123 q123
             cases e123
             replace hx123_0 := (HB.out.cell (World.block_lt_of_cell? w _ hx123_0)).trans hx123_0
             replace hx123_1 := (HB.out.cell (World.block_lt_of_cell? w _ hx123_1)).trans hx123_1
             replace hx123_2 := (HB.out.cell (World.block_lt_of_cell? w _ hx123_2)).trans hx123_2
             replace p123 := eq_true p123
             replace q123 := eq_true q123
             go_wp2_with (first | ((with_reducible refine gate_dst (N := 7) rfl ?_); refine box_event ?hg (N := 7) ?hd (cs := #[.int .i64 0, .int .i64 0, .string (⟨#[]⟩ : ByteArray)]) (t := 53) ?hr ?_; (case hd => rfl); (case hg => rfl); (case hr => first | (go_simp; done) | (go_simp; rfl)); intro gb124 hg w28 hbox hb; have n0_ := aMk (below_step (aP80) hb); have n1_ := aMk (hbox); have n2_ := aMk ((aP81 : w.heap.size ≤ gb124)); have n3_ := aMk ((aP81 : w.heap.size ≤ gb124)); clear HB; have HB := n0_; have BK124 := n1_; have GW124 := n2_; have GE124 := n3_; clear n0_ n1_ n2_ n3_; clear hb hbox hg; have hcz29_0 : w28.cell? ⟨gb124, 0, none⟩ = some (.int .i64 0) := (blk_cell BK124.out 0).trans rfl; have hcz29_1 : w28.cell? ⟨gb124, 1, none⟩ = some (.int .i64 0) := (blk_cell BK124.out 1).trans rfl; have hcz29_2 : w28.cell? ⟨gb124, 2, none⟩ = some (.string (⟨#[]⟩ : ByteArray)) := (blk_cell BK124.out 2).trans rfl; have hfz29_0 := blk_frozen BK124.out 0; have hfz29_1 := blk_frozen BK124.out 1; have hfz29_2 := blk_frozen BK124.out 2))
             go_roundg k1
             case measure => have := HK1.out; omega
             case rel => exact ⟨(x5_1 ++ (⟨#[226, 128, 176]⟩ : ByteArray)), (wrap64 (x15_1 + 1)), (aP77), (aP77), H', ⟨by have := HK1.out; omega⟩, ⟨aP93⟩⟩
            ·rw [if_neg c27] at H
             exact absurd H (by simp)
           ·rw [if_neg c26] at H
            have c26b0 : (((rd_T53 l0 x15_1).f0) == 4) = false := beF c26
            have c26b1 : (((rd_T53 l0 x15_1).f0) != 4) = true := bnT c26
            replace H := Option.bind_eq_some_iff.mp H
            obtain ⟨t126, A300, H⟩ := H
            replace H : (if x5_1.size + t126.size ≤ 9223372036854775807 then (affix_Print.l0 k1 (x5_1 ++ t126) l0 (l0.length : Int) (wrap64 (x15_1 + 1))) else (none)) = some (r1, r2) := H
            have A30 := aMk A300
            clear A300
            by_cases c31 : x5_1.size + t126.size ≤ 9223372036854775807
            ·rw [if_pos c31] at H
             have c31b0 := eq_true c31
             have c31b1 : decide (x5_1.size + t126.size ≤ 9223372036854775807) = true := dTr c31
             try have c31b2 : (9223372036854775807 < x5_1.size + t126.size) = False := eq_false (Nat.not_lt.2 c31)
             have H' := aMk H
             clear H
             have p123 : 0 ≤ (x15_1 : Int) := of_decide_eq_true (aP75)
             have q123 : x15_1 < (l0.length : Int) := of_decide_eq_true (aP75)
             obtain ⟨ad123, e123, hx123_0, hx123_1, hx123_2⟩ := at_T53 HR0.out x15_1 p123 q123
             cases e123
             replace hx123_0 := (HB.out.cell (World.block_lt_of_cell? w _ hx123_0)).trans hx123_0
             replace hx123_1 := (HB.out.cell (World.block_lt_of_cell? w _ hx123_1)).trans hx123_1
             replace hx123_2 := (HB.out.cell (World.block_lt_of_cell? w _ hx123_2)).trans hx123_2
             replace p123 := eq_true p123
             replace q123 := eq_true q123
             go_wp2_with (first | ((with_reducible refine gate_dst (N := 7) rfl ?_); refine box_event ?hg (N := 7) ?hd (cs := #[.int .i64 0, .int .i64 0, .string (⟨#[]⟩ : ByteArray)]) (t := 53) ?hr ?_; (case hd => rfl); (case hg => rfl); (case hr => first | (go_simp; done) | (go_simp; rfl)); intro gb124 hg w32 hbox hb; have n0_ := aMk (below_step (aP80) hb); have n1_ := aMk (hbox); have n2_ := aMk ((aP81 : w.heap.size ≤ gb124)); have n3_ := aMk ((aP81 : w.heap.size ≤ gb124)); clear HB; have HB := n0_; have BK124 := n1_; have GW124 := n2_; have GE124 := n3_; clear n0_ n1_ n2_ n3_; clear hb hbox hg; have hcz33_0 : w32.cell? ⟨gb124, 0, none⟩ = some (.int .i64 0) := (blk_cell BK124.out 0).trans rfl; have hcz33_1 : w32.cell? ⟨gb124, 1, none⟩ = some (.int .i64 0) := (blk_cell BK124.out 1).trans rfl; have hcz33_2 : w32.cell? ⟨gb124, 2, none⟩ = some (.string (⟨#[]⟩ : ByteArray)) := (blk_cell BK124.out 2).trans rfl; have hfz33_0 := blk_frozen BK124.out 0; have hfz33_1 := blk_frozen BK124.out 1; have hfz33_2 := blk_frozen BK124.out 2) | ((with_reducible refine gate_callee (f := 76) rfl ?_); refine goesL_ (some 24) rfl rfl Try.func76 (by kernel_rfl) rfl #[.string (⟨#[194, 164]⟩ : ByteArray), .int .i64 ((rd_T53 l0 x15_1).f1)] rfl (aP76) ?_; (with_reducible refine (strings_Repeat.calls (⟨#[194, 164]⟩ : ByteArray) ((rd_T53 l0 x15_1).f1) t126 _ A30.out).mono ?_); rintro e w34 ⟨rfl, hb⟩; refine ⟨_, rfl, ?_⟩; have n0_ := aMk (blk_below (g := gb124) (o := .cells #[.int .i64 ((rd_T53 l0 x15_1).f0), .int .i64 ((rd_T53 l0 x15_1).f1), .string ((rd_T53 l0 x15_1).f2)] 53 (0, 0)) (by (with_reducible repeat (first | refine blk_drewN ?_ _ | refine blk_drew ?_ | refine blk_alloc ?_ _)); refine blk_put (cs := #[.int .i64 ((rd_T53 l0 x15_1).f0), .int .i64 ((rd_T53 l0 x15_1).f1), .string (⟨#[]⟩ : ByteArray)]) ?_ 2 _ rfl; (with_reducible repeat (first | refine blk_drewN ?_ _ | refine blk_drew ?_ | refine blk_alloc ?_ _)); refine blk_put (cs := #[.int .i64 ((rd_T53 l0 x15_1).f0), .int .i64 0, .string (⟨#[]⟩ : ByteArray)]) ?_ 1 _ rfl; (with_reducible repeat (first | refine blk_drewN ?_ _ | refine blk_drew ?_ | refine blk_alloc ?_ _)); refine blk_put (cs := #[.int .i64 0, .int .i64 0, .string (⟨#[]⟩ : ByteArray)]) ?_ 0 _ rfl; (with_reducible repeat (first | refine blk_drewN ?_ _ | refine blk_drew ?_ | refine blk_alloc ?_ _)); exact BK124.out) hb); have n1_ := aMk (below_step (aP93) hb); clear BK124; clear HB; have BK124 := n0_; have HB := n1_; clear n0_ n1_; (try clear hb); (try clear hb2); (try clear hk); (try clear hi)))
             go_roundg k1
             case measure => have := HK1.out; omega
             case rel => exact ⟨(x5_1 ++ t126), (wrap64 (x15_1 + 1)), (aP77), (aP77), H', ⟨by have := HK1.out; omega⟩, ⟨aP93⟩⟩
            ·rw [if_neg c31] at H
             exact absurd H (by simp)
      ·rw [if_neg c7] at H
       exact absurd H (by simp)
     ·rw [if_neg c6] at H
      exact absurd H (by simp)
    ·rw [if_neg c5] at H
     have c5b0 : decide (x15_1 < (l0.length : Int)) = false := dFa c5
     exact aP30
 ·rw [if_neg c3] at H
  have c3b0 : (t122 == 0) = false := beF c3
  have c3b1 : (t122 != 0) = true := bnT c3
  simp only [Option.some.injEq, Prod.mk.injEq] at H
  obtain ⟨rfl, rfl⟩ := H
  go_enter Try.func53, Try.ntmps53
  go_wp2_with (first | ((with_reducible refine gate_callee (f := 33) rfl ?_); refine goesL_ (some 9) rfl rfl Try.func33 (by kernel_rfl) rfl #[.slice A0 l0.length c0] rfl (aP76) ?_; (with_reducible refine (affix_Check.calls k _ _ l0 t122 _ ?side1 ?side2 A2.out).mono ?_); (case side1 => repeat (first | exact HR0.out | (with_reducible refine Kd.C_alloc ?_ _) | (with_reducible refine Kd.C_drewN ?_ _) | (with_reducible refine Kd.C_drew ?_))); (case side2 => exact HC0.out); rintro e w35 ⟨rfl, hb⟩; refine ⟨_, rfl, ?_⟩; have n0_ := aMk (below_step (aP80) hb); clear HB; have HB := n0_; clear n0_; (try clear hb); (try clear hb2); (try clear hk); (try clear hi)))
  exact aP29
end Go.Proofs.Ytacnjemndfmbhaa.Q
end
section
namespace Go.Proofs.Ytacnjemndfmbhaa.Q
open Go.RowKit Go.Proofs.YtacnjemndfmbhaaW.PrintWords Go.Proofs.YtacnjemndfmbhaaW.PrintLast Go.Proofs.YtacnjemndfmbhaaW.PrintMore
attribute [local go_sem] max2_int min2_int max_two min_two max_three min_three max_four min_four   -- for this text's walks alone
set_option linter.unusedVariables false
set_option linter.unusedSimpArgs false
theorem run_eql_slice_nil {P : Program} (w : World) (t e : TypeId) (a : Option Addr) (l c : Nat) (h : P.underlying t = some (.slice e)) : (binOp .eql t (.slice a l c) (.slice none 0 0)).run P w = .ok (.bool a.isNone) w := by
 simp only [binOp]
 simp [run_equal_slice_nil w t e a l c h]
attribute [local go_sem] run_eql_slice_nil
theorem clip_calls (A0 : Option Addr) (n c : Nat) (w : World) (h : n ≤ c) (hc : c ≤ maxLen) :
  Calls Try.prog 98 #[.slice A0 n c] w fun e w' => e = .returned (.slice A0 n n) ∧ Drawn0 w w' := by
 unfold maxLen at hc
 have h1 : (n : Int) ≤ (c : Int) := by omega
 have h2 : (0 : Int) ≤ (n : Int) := by omega
 have hu := Try.underlying22
 go_enter Try.func98, Try.ntmps98
 go_wp2
 go_ret
 exact ⟨rfl, aP78⟩
theorem R_cap {w : World} {base : Nat} {ok : Nat → Prop} {A : Option Addr} {n c : Nat} {xs : List S53} (h : Kd.R k53 53 w base ok (.slice A n c) xs) : n ≤ c ∧ c ≤ maxLen := by
 have hn := (Kd.R_reads' h).1
 obtain ⟨inner, _, h2⟩ := Kd.R_own h
 rcases h2 with ⟨e, h2⟩ | ⟨g, cap, cur, e, _, _, h3, h4, _⟩
 ·cases e; exact ⟨Nat.le_refl _, Nat.zero_le _⟩
 ·cases e; exact ⟨h3, h4⟩
def Clipped (w : World) (base : Nat) (v : Value) (xs : List S53) : Prop := ∃ A c, v = .slice A xs.length xs.length ∧ Kd.R k53 53 w base (fun k_ => base ≤ k_) (.slice A xs.length c) xs
theorem Clipped.V {w : World} {base : Nat} {v : Value} {xs : List S53} (h : Clipped w base v xs) : Kd.V k53 53 w base (fun k_ => base ≤ k_) v xs := by
 obtain ⟨A, c, rfl, h⟩ := h
 obtain ⟨A', c', e, hc, hf⟩ := Kd.R_V (base' := base) h
 cases e
 exact ⟨_, _, rfl, Nat.le_refl _, hf⟩
structure Rdr (w0 w : World) (g : Nat) (v : Value) (l : List S53) (t : ByteArray) : Prop where
 ge : w0.heap.size ≤ g
 blk : w.heap[g]? = some (.cells #[v, .string t] 107 (0, 0))
 row : Kd.R k53 53 w w0.heap.size (fun k => w0.heap.size ≤ k) v l
 below : Below w0.heap.size w0 w
theorem Rdr.cells {w0 w : World} {g : Nat} {v : Value} {l : List S53} {t : ByteArray} (h : Rdr w0 w g v l t) : w.cell? ⟨g, 0, none⟩ = some v ∧ w.cell? ⟨g, 1, none⟩ = some (.string t) ∧ w.frozen? ⟨g, 0, none⟩ = false ∧ w.frozen? ⟨g, 1, none⟩ = false :=
 ⟨(blk_cell h.blk 0).trans rfl, (blk_cell h.blk 1).trans rfl, blk_frozen h.blk 0, blk_frozen h.blk 1⟩
theorem Rdr.ne {w0 w : World} {g : Nat} {v : Value} {l : List S53} {t : ByteArray} (h : Rdr w0 w g v l t) : some g ≠ v.ownBlock := Kd.R_ne h.row h.blk (by decide)
theorem Rdr.step {w0 w w' : World} {g : Nat} {v : Value} {l : List S53} {t : ByteArray} (h : Rdr w0 w g v l t) (hb : Below w.heap.size w w') : Rdr w0 w' g v l t :=
 ⟨h.ge, blk_below h.blk hb, Kd.R_below h.row hb, below_step h.below hb⟩
theorem Rdr.drewN {w0 w : World} {g : Nat} {v : Value} {l : List S53} {t : ByteArray} (h : Rdr w0 w g v l t) (n : Nat) : Rdr w0 (w.drewN n) g v l t := h.step (pw_below_drewN (Below.refl _ _) n)
theorem ne53107 : ∀ q, q ∈ (53 : Nat) :: k53.E → q ≠ 107 := by
 intro q hq
 have : q = 53 := aP94
 rw [this]; decide
theorem Rdr.text {w0 w : World} {g : Nat} {v : Value} {l : List S53} {t : ByteArray} (h : Rdr w0 w g v l t) (x : ByteArray) : Rdr w0 (w.setCell ⟨g, 1, none⟩ (.string x)) g v l x :=
 ⟨h.ge, blk_put h.blk 1 _ rfl, Kd.R_set h.row h.blk ne53107 1 _, below_set h.below h.ge⟩
theorem Rdr.put {w0 w w1 : World} {g : Nat} {v v1 : Value} {l l1 : List S53} {t : ByteArray} (h : Rdr w0 w g v l t) (hg : w.grownBy w1 v.ownBlock) (hr : Kd.R k53 53 w1 w0.heap.size (fun k => w0.heap.size ≤ k) v1 l1) (hb : Below w0.heap.size w0 w1) : Rdr w0 (w1.setCell ⟨g, 0, none⟩ v1) g v1 l1 t := by
 have hk := blk_grown h.blk hg h.ne
 exact ⟨h.ge, blk_put hk 0 _ rfl, Kd.R_set hr hk ne53107 0 _, below_set hb h.ge⟩
theorem R_step_lies {ops : Array Oper} {o : Oper} {a : Act} {Kc : Act → World → Prop} {Q : Exit → Act → World → Prop} {E : Prop} {w0 W : World} (hgd : o.guard = none) (s x : Operand)
  (ho : o.op = .call { callee := .builtin .append, args := #[s, x], argTypes := #[22, 22] }) (v : Value) (xs : List S53) (p : S53) (b : Nat)
  (hs : a.eval s = v) (hx : a.eval x = .slice (some ⟨b, 0, none⟩) 1 1) (hb : W.heap[b]? = some (.cells #[.int .i64 p.f0, .int .i64 p.f1, .string p.f2] 53 (0, 0)))
  (HO : Kd.R k53 53 W w0.heap.size (fun k => w0.heap.size ≤ k) v xs) (HB : Below w0.heap.size w0 W) (hl : xs.length < 4398046511104)
  (h : ∀ v1 w1, Kd.R k53 53 w1 w0.heap.size (fun k => w0.heap.size ≤ k) v1 (xs ++ [p]) → Below w0.heap.size w0 w1 → W.grownBy w1 v.ownBlock → Kc (a.put o.dst v1) w1) :
  if Region.wanted o (yielded ops a.tmps) = true then Oper.wp Try.prog o a W Kc Q else E := by
 obtain ⟨i0, hi0, hz0, hz1, hz2⟩ := info_parts info53
 obtain ⟨h0, inner, hown, hr⟩ := HO
 have hbase := below_size HB
 refine step_append_lies W hgd s x 22 ho w0.heap.size 53 i0 _ 3 32 Try.underlying22 hi0 hz0 hz1 hz2 rfl (by decide) v xs.length inner hs hown ⟨b, 0, none⟩ 1 1 [.int .i64 p.f0, .int .i64 p.f1, .string p.f2] hx rfl
  (World.news_of_block (cs := #[.int .i64 p.f0, .int .i64 p.f1, .string p.f2]) hb) (by simp [Value.oneCell']) (by decide) (by simp only [maxLen]; omega) (by omega) hbase W.heap.size rfl ?_
 intro g cap w1 hown1 hg hat _
 have hat1 : (Value.slice (some ⟨g, 0, none⟩) (xs.length + 1) cap).ownBlock = v.ownBlock ∨ ∃ q, (Value.slice (some ⟨g, 0, none⟩) (xs.length + 1) cap).ownBlock = some q ∧ W.heap.size ≤ q := by
  rcases hat with hat | hat
  ·exact .inl hat.symm
  ·exact .inr ⟨g, rfl, by omega⟩
 exact h _ w1 (Kd.R_appended (d := k53) (okp := fun _ => False) (cs := [.int .i64 p.f0, .int .i64 p.f1, .string p.f2]) h0 hr (k53_mkM _ _ _ p) (fun _ hk => hk.elim) (fun k hk => Nat.le_trans hbase hk) hown1 hg hat1) (HB.grown hg hbase (own_base hown)) hg
def endL (l : List S53) (t : ByteArray) : List S53 := if t.toList = [] then l else l ++ [⟨0, 0, t⟩]
set_option maxHeartbeats 4000000 in
set_option maxRecDepth 100000 in
theorem ends_calls (w0 w : World) (g : Nat) (v : Value) (l : List S53) (t : ByteArray) (h : Rdr w0 w g v l t) (hl : l.length < 4398046511104) :
  Calls Try.prog 97 #[.pointer (some ⟨g, 0, none⟩)] w fun e w' => e = .returned (.tuple #[]) ∧ ∃ v', Rdr w0 w' g v' (endL l t) ⟨#[]⟩ := by
 have hu53 := Try.underlying53
 have hu107 := Try.underlying107
 have HQ := aMk h
 have HL := aMk hl
 obtain ⟨A, c, ev⟩ := Kd.R_slice h.row
 subst ev
 obtain ⟨hc0, hc1, hf0, hf1⟩ := h.cells
 clear h hl
 by_cases ht : t.toList = []
 ·have e1 : (t.toList == ([] : List UInt8)) = true := beT ht
  have e2 : (t.toList != ([] : List UInt8)) = false := bnF ht
  have e3 : t.toList.isEmpty = true := by rw [ht]; rfl
  have HE := aMk (show endL l t = l by unfold endL; rw [if_pos ht])
  clear ht
  go_enter Try.func97, Try.ntmps97
  go_wp2
  go_end0
  exact ⟨rfl, _, by rw [HE.out]; exact HQ.out.text ⟨#[]⟩⟩
 ·have e1 : (t.toList == ([] : List UInt8)) = false := beF ht
  have e2 : (t.toList != ([] : List UInt8)) = true := bnT ht
  have e3 : t.toList.isEmpty = false := by cases hh : t.toList with
   | nil => exact absurd hh ht
   | cons a b => rfl
  have HE := aMk (show endL l t = l ++ [⟨0, 0, t⟩] by unfold endL; rw [if_neg ht])
  clear ht
  have hz0 : ∀ o, (w.alloc o).cell? ⟨g, 0, none⟩ = some (.slice A l.length c) := fun o => (HQ.out.step (below_alloc (Below.refl _ _) o)).cells.1
  have hz1 : ∀ o, (w.alloc o).cell? ⟨g, 1, none⟩ = some (.string t) := fun o => (HQ.out.step (below_alloc (Below.refl _ _) o)).cells.2.1
  go_enter Try.func97, Try.ntmps97
  go_wp2_with fail
  go_region_law (refine R_step_lies (w0 := w0) (by rfl) (.tmp 11) (.tmp 17) rfl (.slice A l.length c) l (⟨0, 0, t⟩ : S53) w.heap.size rfl rfl ?aN ?aO ?aB HL.out ?_; (case aN => exact (by (with_reducible repeat (first | refine blk_drewN ?_ _ | refine blk_drew ?_)); exact heap_alloc_new w _)); (case aB => exact (by repeat (first | (with_reducible first | exact HQ.out.below | apply below_alloc | apply pw_below_drewN | apply below_drew1) | exact HQ.out.below))); (case aO => exact (by (with_reducible repeat (first | apply Kd.R_alloc | apply Kd.R_drewN | apply Kd.R_drew)); exact HQ.out.row)); intro v1 w1 ho hb hg; obtain ⟨A1, c1, ev⟩ := Kd.R_slice ho; subst ev; have HO := aMk ho; have HB := aMk hb; clear ho hb; have hbk := blk_grown (show _ = some (.cells #[.slice A l.length c, .string t] 107 (0, 0)) from (by (with_reducible repeat (first | refine blk_drewN ?_ _ | refine blk_drew ?_ | refine blk_alloc ?_ _)); exact HQ.out.blk)) hg HQ.out.ne; have k0 : w1.cell? ⟨g, 0, none⟩ = some (.slice A l.length c) := (blk_cell hbk 0).trans rfl; have k1 : w1.cell? ⟨g, 1, none⟩ = some (.string t) := (blk_cell hbk 1).trans rfl; have k2 := blk_frozen hbk 0; have HBK := aMk hbk; clear hbk hg)
  all_goals
   clear hc0 hc1 hf0 hf1 hz0 hz1
   have k3 : (w1.setCell ⟨g, 0, none⟩ (.slice A1 (l.length + 1) c1)).cell? ⟨g, 1, none⟩ = some (.string t) := (blk_cell (blk_put HBK.out 0 (.slice A1 (l.length + 1) c1) rfl) 1).trans rfl
   have k4 := blk_frozen (blk_put HBK.out 0 (.slice A1 (l.length + 1) c1) rfl) 1
   go_wp2
   go_end0
   refine ⟨rfl, .slice A1 (l.length + 1) c1, ?_⟩
   rw [HE.out]
   have hr : Rdr w0 (w1.setCell ⟨g, 0, none⟩ (.slice A1 (l.length + 1) c1)) g (.slice A1 (l.length + 1) c1) (l ++ [⟨0, 0, t⟩]) t := ⟨HQ.out.ge, blk_put HBK.out 0 _ rfl, Kd.R_set (by simpa using HO.out) HBK.out ne53107 0 _, below_set HB.out HQ.out.ge⟩
   exact hr.text ⟨#[]⟩
theorem blk_second (w : World) (X Y : Obj) : ((w.alloc X).alloc Y).heap[w.heap.size + 1]? = some Y := by
 have e0 : (w.alloc X).heap.size = w.heap.size + 1 := by simp
 rw [← e0]
 exact heap_alloc_new _ _
def signL (l : List S53) (k : Int) : List S53 × Bool :=
 if k = 5 ∧ 0 < l.length ∧ (rd_T53 l ((l.length - 1 : Nat) : Int)).f0 = 5 then
  (l.set (l.length - 1) ⟨(rd_T53 l ((l.length - 1 : Nat) : Int)).f0, wrap64 ((rd_T53 l ((l.length - 1 : Nat) : Int)).f1 + 1), (rd_T53 l ((l.length - 1 : Nat) : Int)).f2⟩, decide (wrap64 ((rd_T53 l ((l.length - 1 : Nat) : Int)).f1 + 1) ≤ 3))
 else (l ++ [⟨k, if k = 5 then 1 else 0, ⟨#[]⟩⟩], true)
set_option maxHeartbeats 8000000 in
set_option maxRecDepth 100000 in
theorem sign_calls (w0 w : World) (g : Nat) (v : Value) (l : List S53) (t : ByteArray) (k : Int) (h : Rdr w0 w g v l t) (hl : l.length + 1 < 4398046511104) :
  Calls Try.prog 96 #[.pointer (some ⟨g, 0, none⟩), .int .i64 k] w fun e w' => e = .returned (.bool (signL (endL l t) k).2) ∧ ∃ v', Rdr w0 w' g v' (signL (endL l t) k).1 ⟨#[]⟩ := by
 have hu53 := Try.underlying53
 have hu107 := Try.underlying107
 have HQ := aMk h
 have HL := aMk hl
 have HL2 := aMk (show (endL l t).length < 4398046511104 by
  unfold endL
  split
  ·omega
  ·rw [List.length_append]; simp; omega)
 have hends := ends_calls w0 w g v l t h (by omega)
 clear h hl HQ HL
 generalize endL l t = l1 at *
 have HEN := aMk hends
 clear hends
 go_enter Try.func96, Try.ntmps96
 go_wp2_with (go_at_call 97; (with_reducible refine HEN.out.mono ?_))
 rintro e w1 ⟨rfl, v1, hr⟩
 clear HEN
 have HR := aMk hr
 obtain ⟨A1, c1, ev⟩ := Kd.R_slice hr.row
 subst ev
 obtain ⟨hc0, hc1, hf0, hf1⟩ := hr.cells
 by_cases hcoin : k = 5 ∧ 0 < l1.length ∧ (rd_T53 l1 ((l1.length - 1 : Nat) : Int)).f0 = 5
 ·have HS := aMk (show signL l1 k = (l1.set (l1.length - 1) ⟨(rd_T53 l1 ((l1.length - 1 : Nat) : Int)).f0, wrap64 ((rd_T53 l1 ((l1.length - 1 : Nat) : Int)).f1 + 1), (rd_T53 l1 ((l1.length - 1 : Nat) : Int)).f2⟩, decide (wrap64 ((rd_T53 l1 ((l1.length - 1 : Nat) : Int)).f1 + 1) ≤ 3)) by unfold signL; rw [if_pos hcoin])
  obtain ⟨rfl, hpos, h5⟩ := hcoin
  obtain ⟨i, hi⟩ : ∃ i : Nat, l1.length - 1 = i := ⟨_, rfl⟩
  rw [hi] at HS h5
  obtain ⟨gr, cap, eg, gb, gl, _⟩ := Kd.R_form hr.row hpos
  cases eg
  have GB := aMk gb
  have hw1 : IntKind.i64.wrap ((l1.length : Int) - 1) = (i : Int) := by rw [i64_w]; unfold wrap64; have := HL2.out; omega
  have hd : decide ((l1.length : Int) > 0) = true := dTr (by omega)
  have hd1 : decide (0 < (l1.length : Int)) = true := dTr (by omega)
  have hd2 : decide (0 < l1.length) = true := dTr hpos
  have p1 : 0 ≤ (i : Int) := by omega
  have q1 : (i : Int) < (l1.length : Int) := by omega
  obtain ⟨ce, hcl, hM, hcc, hfr⟩ := Kd.R_elem hr.row z53 (i : Int) p1 q1
  obtain rfl := k53_openM hM
  have e_ : l1.getD (i : Int).toNat z53 = rd_T53 l1 (i : Int) := rfl
  rw [e_] at hcl hM hcc
  obtain ⟨x, hx⟩ : ∃ x, rd_T53 l1 (i : Int) = x := ⟨_, rfl⟩
  rw [hx] at HS h5 hcl hM hcc
  obtain ⟨m, hm⟩ : ∃ m, wrap64 (x.f1 + 1) = m := ⟨_, rfl⟩
  rw [hm] at HS
  have hmw : IntKind.i64.wrap (x.f1 + 1) = m := (i64_w _).trans hm
  have hx0 := hcc 0 _ rfl
  have hx1 := hcc 1 _ rfl
  have hx2 := hcc 2 _ rfl
  (try simp only [show (k53).sz = 3 from rfl, Nat.mul_one, Nat.add_zero, Int.toNat_natCast] at hx0 hx1 hx2)
  have hf1_ := hfr 1
  (try simp only [show (k53).sz = 3 from rfl, Nat.mul_one, Nat.add_zero, Int.toNat_natCast] at hf1_)
  have HP := Kd.R_seg hr.row (i : Int) p1 q1 (seg := [.int .i64 m]) (j := 1) hcl hcc (show 2 ≤ 3 from by decide) (x' := (⟨x.f0, m, x.f2⟩ : S53)) (k53_mkM _ _ _ (⟨x.f0, m, x.f2⟩ : S53)) (fun _ hk => hk)
  have HPP := aMk HP
  have hgr : gr ≠ g := fun e => hr.ne (by rw [← e]; rfl)
  have hbk : ∀ u, (w1.setCell ⟨gr, i * 3 + 1, none⟩ u).heap[g]? = some (.cells #[.slice (some ⟨gr, 0, none⟩) l1.length c1, .string ⟨#[]⟩] 107 (0, 0)) := fun u => (Below.heap_setCell w1 ⟨gr, i * 3 + 1, none⟩ u g (fun e => hgr e.symm)).trans hr.blk
  have hk0 : ∀ u, (w1.setCell ⟨gr, i * 3 + 1, none⟩ u).cell? ⟨g, 0, none⟩ = some (.slice (some ⟨gr, 0, none⟩) l1.length c1) := fun u => (blk_cell (hbk u) 0).trans rfl
  have HBK := aMk hbk
  have hk5 : (x.f0 == 5) = true := beT h5
  have HH5 := aMk h5
  clear hcl hcc hfr hM HP hbk hr gb gl e_ hgr hm h5 hpos hi
  replace p1 := eq_true p1
  replace q1 := eq_true q1
  go_wp2
  go_ret
  refine ⟨by rw [HS.out]; rfl, .slice (some ⟨gr, 0, none⟩) l1.length c1, ?_⟩
  rw [HS.out]
  exact ⟨HR.out.ge, HBK.out _, by have h_ := HPP.out.1; rw [Int.toNat_natCast] at h_; exact h_, below_set HR.out.below GB.out⟩
 ·have HS := aMk (show signL l1 k = (l1 ++ [⟨k, if k = 5 then 1 else 0, ⟨#[]⟩⟩], true) by unfold signL; rw [if_neg hcoin])
  have hz0 : ∀ o, (w1.alloc o).cell? ⟨g, 0, none⟩ = some (.slice A1 l1.length c1) := fun o => (HR.out.step (below_alloc (Below.refl _ _) o)).cells.1
  have hz2 : ∀ o o2, ((w1.alloc o).alloc o2).cell? ⟨g, 0, none⟩ = some (.slice A1 l1.length c1) := fun o o2 => (HR.out.step (below_alloc (below_alloc (Below.refl _ _) o) o2)).cells.1
  by_cases hk : k = 5
  ·subst hk
   have HS2 := aMk (show signL l1 5 = (l1 ++ [⟨5, 1, ⟨#[]⟩⟩], true) by rw [HS.out, if_pos rfl])
   by_cases hpos : 0 < l1.length
   ·obtain ⟨i, hi⟩ : ∃ i : Nat, l1.length - 1 = i := ⟨_, rfl⟩
    have h5 : (rd_T53 l1 (i : Int)).f0 ≠ 5 := fun e => hcoin ⟨rfl, hpos, by rw [hi]; exact e⟩
    obtain ⟨gr, cap, eg, gb, gl, _⟩ := Kd.R_form hr.row hpos
    cases eg
    have hw1 : IntKind.i64.wrap ((l1.length : Int) - 1) = (i : Int) := by rw [i64_w]; unfold wrap64; have := HL2.out; omega
    have hd : decide ((l1.length : Int) > 0) = true := dTr (by omega)
    have hd1 : decide (0 < (l1.length : Int)) = true := dTr (by omega)
    have hd2 : decide (0 < l1.length) = true := dTr hpos
    have p1 : 0 ≤ (i : Int) := by omega
    have q1 : (i : Int) < (l1.length : Int) := by omega
    obtain ⟨ce, hcl, hM, hcc, hfr⟩ := Kd.R_elem hr.row z53 (i : Int) p1 q1
    obtain rfl := k53_openM hM
    have e_ : l1.getD (i : Int).toNat z53 = rd_T53 l1 (i : Int) := rfl
    rw [e_] at hcl hM hcc
    obtain ⟨x, hx⟩ : ∃ x, rd_T53 l1 (i : Int) = x := ⟨_, rfl⟩
    rw [hx] at h5 hcl hM hcc
    have hx0 := hcc 0 _ rfl
    (try simp only [show (k53).sz = 3 from rfl, Nat.mul_one, Nat.add_zero, Int.toNat_natCast] at hx0)
    have hk5 : (x.f0 == 5) = false := beF h5
    clear hcl hcc hfr hM hr gb gl e_ h5 hpos hi hcoin
    replace p1 := eq_true p1
    replace q1 := eq_true q1
    go_wp2
    go_region_law (refine R_step_lies (w0 := w0) (by rfl) (.tmp 64) (.tmp 66) rfl (.slice (some ⟨gr, 0, none⟩) l1.length c1) l1 (⟨5, 1, ⟨#[]⟩⟩ : S53) (w1.heap.size + 1) rfl rfl ?aN ?aO ?aB HL2.out ?_; (case aN => exact (aP95)); (case aB => exact (aP96)); (case aO => exact (aP97)); intro v2 w2 ho hb hg; obtain ⟨A2, c2, ev⟩ := Kd.R_slice ho; subst ev; have HO := aMk ho; have HB := aMk hb; clear ho hb; have hbk := blk_grown (show _ = some (.cells #[.slice (some ⟨gr, 0, none⟩) l1.length c1, .string ⟨#[]⟩] 107 (0, 0)) from (aP98)) hg HR.out.ne; have k0 : w2.cell? ⟨g, 0, none⟩ = some (.slice (some ⟨gr, 0, none⟩) l1.length c1) := (blk_cell hbk 0).trans rfl; have k1 : w2.cell? ⟨g, 1, none⟩ = some (.string ⟨#[]⟩) := (blk_cell hbk 1).trans rfl; have k2 := blk_frozen hbk 0; have HBK := aMk hbk; clear hbk hg)
    all_goals
     exact aP35
   ·have hz : l1.length = 0 := by omega
    have hd : decide ((l1.length : Int) > 0) = false := dFa (by omega)
    have hd1 : decide (0 < (l1.length : Int)) = false := dFa (by omega)
    have hd2 : decide (0 < l1.length) = false := dFa hpos
    clear hpos hz hcoin hr
    go_wp2
    go_region_law (refine R_step_lies (w0 := w0) (by rfl) (.tmp 64) (.tmp 66) rfl (.slice A1 l1.length c1) l1 (⟨5, 1, ⟨#[]⟩⟩ : S53) (w1.heap.size + 1) rfl rfl ?aN ?aO ?aB HL2.out ?_; (case aN => exact (aP95)); (case aB => exact (aP96)); (case aO => exact (aP97)); intro v2 w2 ho hb hg; obtain ⟨A2, c2, ev⟩ := Kd.R_slice ho; subst ev; have HO := aMk ho; have HB := aMk hb; clear ho hb; have hbk := blk_grown (show _ = some (.cells #[.slice A1 l1.length c1, .string ⟨#[]⟩] 107 (0, 0)) from (aP98)) hg HR.out.ne; have k0 : w2.cell? ⟨g, 0, none⟩ = some (.slice A1 l1.length c1) := (blk_cell hbk 0).trans rfl; have k1 : w2.cell? ⟨g, 1, none⟩ = some (.string ⟨#[]⟩) := (blk_cell hbk 1).trans rfl; have k2 := blk_frozen hbk 0; have HBK := aMk hbk; clear hbk hg)
    all_goals
     exact aP35
  ·have hk1 : (k == 5) = false := beF hk
   have hk2 : (k != 5) = true := bnT hk
   have HS2 := aMk (show signL l1 k = (l1 ++ [⟨k, 0, ⟨#[]⟩⟩], true) by rw [HS.out, if_neg hk])
   clear hk hcoin hr
   go_wp2
   go_region_law (refine R_step_lies (w0 := w0) (by rfl) (.tmp 64) (.tmp 66) rfl (.slice A1 l1.length c1) l1 (⟨k, 0, ⟨#[]⟩⟩ : S53) (w1.heap.size + 1) rfl rfl ?aN ?aO ?aB HL2.out ?_; (case aN => exact (aP95)); (case aB => exact (aP96)); (case aO => exact (aP97)); intro v2 w2 ho hb hg; obtain ⟨A2, c2, ev⟩ := Kd.R_slice ho; subst ev; have HO := aMk ho; have HB := aMk hb; clear ho hb; have hbk := blk_grown (show _ = some (.cells #[.slice A1 l1.length c1, .string ⟨#[]⟩] 107 (0, 0)) from (aP98)) hg HR.out.ne; have k0 : w2.cell? ⟨g, 0, none⟩ = some (.slice A1 l1.length c1) := (blk_cell hbk 0).trans rfl; have k1 : w2.cell? ⟨g, 1, none⟩ = some (.string ⟨#[]⟩) := (blk_cell hbk 1).trans rfl; have k2 := blk_frozen hbk 0; have HBK := aMk hbk; clear hbk hg)
   all_goals
    exact aP35
def hasQ (s : ByteArray) : Bool := Lib.hasPrefix s.data.toList [39]
theorem hasQ_calls (s : ByteArray) (w : World) : Calls Try.prog 67 #[.string s, .string ⟨#[39]⟩] w fun e w' => e = .returned (.bool (hasQ s)) ∧ w = w' :=
 (Try.strings_HasPrefix s ⟨#[39]⟩ w).mono fun e w' ⟨he, hw⟩ => ⟨he, hw.symm⟩
theorem hasQ_pos (s : ByteArray) (q : Nat) (h : hasQ (s.extract q s.size) = true) : q < s.size := by
 rcases Nat.lt_or_ge q s.size with h1 | h1
 ·exact h1
 ·exfalso
  have : (s.extract q s.size).data.toList = [] := by
   apply List.eq_nil_of_length_eq_zero
   have e : (s.extract q s.size).size = 0 := aP99
   simpa using e
  unfold hasQ at h
  rw [this] at h
  exact absurd h (by decide)
def parseL (s : ByteArray) (K : Nat) : Nat → Int → Int → List S53 → ByteArray → Option (List S53 × Int)
 | 0, _, _, _, _ => none
 | d + 1, x, p, l, t =>
  if p < s.size then (cursor_Rune.f 5 s p).bind fun n =>
   if n = 0 then some ([], 131)
   else if 0 < n ∧ p + n ≤ s.size then
    if (s.extract p.toNat (p + n).toNat).toList = [39] then
     if hasQ (s.extract (p + n).toNat s.size) = true then parseL s K d x (p + n + 1) l (t ++ ⟨#[39]⟩)
     else parseL s K d (1 - x) (p + n) l t
    else if x = 0 then (affix_kind.f (s.extract p.toNat (p + n).toNat)).bind fun k =>
      if 0 < k then (if (signL (endL l t) k).2 = true then parseL s K d x (p + n) (signL (endL l t) k).1 ⟨#[]⟩ else some ([], 131))
      else if letB (s.extract p.toNat (p + n).toNat) = true then some ([], 131) else parseL s K d x (p + n) l (t ++ s.extract p.toNat (p + n).toNat)
     else parseL s K d x (p + n) l (t ++ s.extract p.toNat (p + n).toNat)
   else none
  else if x = 1 then some ([], 130) else (affix_Check.f K (endL l t)).bind fun e => if e = 0 then some (endL l t, 0) else some ([], e)
def affix_Parse.f (a0 : ByteArray) : Option (List S53 × Int) := if a0.size ≤ 1048576 then parseL a0 (4 * a0.size + 100) (a0.size + 1) 0 0 [] ⟨#[]⟩ else none
theorem Rdr.start (w : World) : Rdr w (w.alloc (.cells #[.slice none 0 0, .string ⟨#[]⟩] 107)) w.heap.size (.slice none 0 0) [] ⟨#[]⟩ :=
 ⟨Nat.le_refl _, heap_alloc_new _ _, Kd.R_nil _ _ _ _ _, below_alloc (Below.refl _ _) _⟩
theorem endL_len (l : List S53) (t : ByteArray) : (endL l t).length ≤ l.length + 1 := by
 unfold endL
 split
 ·omega
 ·rw [List.length_append]; simp
theorem signL_len (l : List S53) (k : Int) : (signL l k).1.length ≤ l.length + 1 := by
 unfold signL
 split
 ·rw [List.length_set]; omega
 ·rw [List.length_append]; simp
theorem clipped_nil (w : World) (base : Nat) : Clipped w base (.slice none 0 0) [] := ⟨none, 0, rfl, Kd.R_nil _ _ _ _ _⟩
set_option maxHeartbeats 8000000 in
set_option maxRecDepth 100000 in
theorem parse_own (a0 : ByteArray) (r1 : List S53) (r2 : Int) (w : World) (hG : Glob w) (h : affix_Parse.f a0 = some (r1, r2)) :
  Calls Try.prog 85 #[.string a0] w fun e w' => ∃ v0_ : Value, e = .returned (.tuple #[v0_, .int .i64 r2]) ∧ Clipped w' w.heap.size v0_ r1 ∧ Below w.heap.size w w' := by
 unfold affix_Parse.f at h
 by_cases hsz : a0.size ≤ 1048576
 case neg => rw [if_neg hsz] at h; exact absurd h (by simp)
 rw [if_pos hsz] at h
 have HS := aMk hsz
 have HG := aMk hG
 obtain ⟨K, hK⟩ : ∃ K, 4 * a0.size + 100 = K := ⟨_, rfl⟩
 rw [hK] at h
 have H' := aMk h
 clear hsz hG h hK
 go_enter Try.func85, Try.ntmps85
 go_wp2
 go_step3
 go_wp2
 go_step3
 go_wp2
 go_loopg [5, 6, 7, 8] (a0.size + 1) (fun gk v5 v6 v7 v8 wr => ∃ (x p : Int) (v : Value) (l : List S53) (t : ByteArray), v5 = .int .i64 x ∧ v6 = .int .i64 p ∧ Aside0 (parseL a0 K gk x p l t = some (r1, r2)) ∧ Aside0 (x = 0 ∨ x = 1) ∧ Aside0 (0 ≤ p ∧ p ≤ a0.size ∧ (l.length : Int) ≤ 2 * p ∧ (t.size : Int) ≤ p) ∧ Aside0 (Rdr w wr w.heap.size v l t))
 case atStart => exact ⟨0, 0, .slice none 0 0, [], ⟨#[]⟩, rfl, rfl, H', ⟨.inl rfl⟩, ⟨⟨Int.le_refl _, by omega, by decide, by decide⟩⟩, ⟨Rdr.start w⟩⟩
 case round =>
  clear H'
  obtain ⟨x, p, v, l, t, rfl, rfl, HA, HX, HI, HQ⟩ := hrel
  have HQD := aMk (fun m1 => HQ.out.drewN m1)
  cases gk with
  | zero => exact absurd HA.out (by simp [parseL])
  | succ gk' =>
   have H := HA.out
   clear HA
   simp only [parseL] at H
   obtain ⟨A1, c1, ev⟩ := Kd.R_slice HQ.out.row
   subst ev
   obtain ⟨hq0, hq1, hq2, hq3⟩ := HQ.out.cells
   by_cases hlt : p < a0.size
   case neg =>
    rw [if_neg hlt] at H
    have hd : decide (p < (a0.size : Int)) = false := dFa hlt
    clear hlt
    by_cases hx1 : x = 1
    ·rw [if_pos hx1] at H
     have hxb : (x == 1) = true := beT hx1
     simp only [Option.some.injEq, Prod.mk.injEq] at H
     obtain ⟨rfl, rfl⟩ := H
     clear hx1
     go_wp2
     (try rw [Exit.noGoto_ret])
     go_ret2
     exact ⟨_, rfl, clipped_nil _ _, HQ.out.below⟩
    rw [if_neg hx1] at H
    have hxb : (x == 1) = false := beF hx1
    clear hx1
    replace H := Option.bind_eq_some_iff.mp H
    obtain ⟨ek, hck, H⟩ := H
    have HCK := aMk hck
    clear hck
    by_cases he0 : ek = 0
    ·rw [if_pos he0] at H
     have heb : (ek == 0) = true := beT he0
     have heb2 : (ek != 0) = false := bnF he0
     simp only [Option.some.injEq, Prod.mk.injEq] at H
     obtain ⟨rfl, rfl⟩ := H
     clear he0
     go_wp2_with (first | (go_at_call 97; (with_reducible refine (ends_calls w _ w.heap.size (.slice A1 l.length c1) l t HQ.out ?side1).mono ?_); (case side1 => have := HI.out; have := HS.out; omega); rintro e w2 ⟨rfl, v2, hq2⟩; have HQE := aMk hq2; obtain ⟨A2, c2, ev2⟩ := Kd.R_slice hq2.row; subst ev2; obtain ⟨hz0, hz1, hz2, hz3⟩ := hq2.cells; clear hq2) | (go_at_call 33; (with_reducible refine (affix_Check.calls K A2 c2 (endL l t) ek _ (Kd.R_reads' HQE.out.row).2.2 (Kd.R_reads' HQE.out.row).2.1 HCK.out).mono ?_); rintro e w3 ⟨rfl, hb3⟩; have HQC := aMk (HQE.out.step hb3); obtain ⟨hy0, hy1, hy2, hy3⟩ := HQC.out.cells; clear hb3 hz0 hz1 hz2 hz3) | (go_at_call 98; (with_reducible refine (clip_calls A2 (endL l t).length c2 _ (R_cap HQC.out.row).1 (R_cap HQC.out.row).2).mono ?_); rintro e w4 ⟨rfl, ⟨nd4, rfl⟩⟩))
     (try rw [Exit.noGoto_ret])
     go_ret2
     exact ⟨_, rfl, ⟨A2, c2, rfl, (HQC.out.drewN _).row⟩, (HQC.out.drewN _).below⟩
    ·rw [if_neg he0] at H
     have heb : (ek == 0) = false := beF he0
     have heb2 : (ek != 0) = true := bnT he0
     simp only [Option.some.injEq, Prod.mk.injEq] at H
     obtain ⟨rfl, rfl⟩ := H
     clear he0
     go_wp2_with (first | (go_at_call 97; (with_reducible refine (ends_calls w _ w.heap.size (.slice A1 l.length c1) l t HQ.out ?side1).mono ?_); (case side1 => have := HI.out; have := HS.out; omega); rintro e w2 ⟨rfl, v2, hq2⟩; have HQE := aMk hq2; obtain ⟨A2, c2, ev2⟩ := Kd.R_slice hq2.row; subst ev2; obtain ⟨hz0, hz1, hz2, hz3⟩ := hq2.cells; clear hq2) | (go_at_call 33; (with_reducible refine (affix_Check.calls K A2 c2 (endL l t) ek _ (Kd.R_reads' HQE.out.row).2.2 (Kd.R_reads' HQE.out.row).2.1 HCK.out).mono ?_); rintro e w3 ⟨rfl, hb3⟩; have HQC := aMk (HQE.out.step hb3); obtain ⟨hy0, hy1, hy2, hy3⟩ := HQC.out.cells; clear hb3 hz0 hz1 hz2 hz3))
     (try rw [Exit.noGoto_ret])
     go_ret2
     exact ⟨_, rfl, clipped_nil _ _, HQC.out.below⟩
   rw [if_pos hlt] at H
   have hd : decide (p < (a0.size : Int)) = true := dTr hlt
   replace H := Option.bind_eq_some_iff.mp H
   obtain ⟨n, hrn, H⟩ := H
   have HRN := aMk hrn
   clear hrn hlt
   by_cases hn0 : n = 0
   ·rw [if_pos hn0] at H
    have hnb : (n == 0) = true := beT hn0
    simp only [Option.some.injEq, Prod.mk.injEq] at H
    obtain ⟨rfl, rfl⟩ := H
    clear hn0
    go_wp2_with (first | (go_at_call 62; (with_reducible refine (cursor_Rune.calls 5 a0 p n _ HRN.out).mono ?_); rintro e w' ⟨rfl, ⟨nd, rfl⟩⟩))
    (try rw [Exit.noGoto_ret])
    go_ret2
    exact ⟨_, rfl, clipped_nil _ _, (HQ.out.drewN _).below⟩
   rw [if_neg hn0] at H
   have hnb : (n == 0) = false := beF hn0
   clear hn0
   by_cases hn : 0 < n ∧ p + n ≤ a0.size
   case neg => rw [if_neg hn] at H; exact absurd H (by simp)
   rw [if_pos hn] at H
   obtain ⟨q, hq⟩ : ∃ q : Int, p + n = q := ⟨_, rfl⟩
   have HCS := aMk (show ((a0.extract p.toNat q.toNat).size : Int) = n by rw [← hq]; exact extract_len a0 p n HI.out.1 hn.1 hn.2)
   rw [hq] at H
   have hqw : IntKind.i64.wrap (p + n) = q := by rw [hq]; exact IntWalk.i64_in _ (by have := HI.out; have := HS.out; omega)
   have hqw2 : wrap64 (p + n) = q := (i64_w _).symm.trans hqw
   have hp0 : 0 ≤ p := HI.out.1
   have hpq : p ≤ q := by omega
   have hq0_ : 0 ≤ q := by omega
   have hqs : q ≤ (a0.size : Int) := by omega
   have hpq2 : p.toNat ≤ q.toNat := by omega
   have hqs2 : q.toNat ≤ a0.size := by omega
   have HN := aMk (show 0 < n ∧ p + n = q ∧ q ≤ a0.size from ⟨hn.1, hq, hqs⟩)
   clear hn hq
   obtain ⟨c, hc⟩ : ∃ c, a0.extract p.toNat q.toNat = c := ⟨_, rfl⟩
   rw [hc] at H HCS
   replace hp0 := eq_true hp0
   have hr2 : t.size + 1 ≤ 9223372036854775807 := by have := HI.out; have := HS.out; omega
   have hr3 : t.size + c.size ≤ 9223372036854775807 := by have := HI.out; have := HS.out; have := HCS.out; have := HN.out; omega
   have hr4 := eq_false (Nat.not_lt.2 hr2)
   have hr5 := eq_false (Nat.not_lt.2 hr3)
   by_cases h39 : c.toList = [39]
   ·rw [if_pos h39] at H
    have e1 : (c.toList == ([39] : List UInt8)) = true := beT h39
    have e2 : (c.toList != ([39] : List UInt8)) = false := bnF h39
    clear h39
    obtain ⟨s', hs'⟩ : ∃ s', a0.extract q.toNat a0.size = s' := ⟨_, rfl⟩
    by_cases hh : hasQ (a0.extract q.toNat a0.size) = true
    ·rw [if_pos hh] at H
     have HPOS := aMk (hasQ_pos a0 q.toNat hh)
     rw [hs'] at hh
     have hqw3 : wrap64 (q + 1) = q + 1 := by unfold wrap64; have := HS.out; omega
     have hqw4 : IntKind.i64.wrap (q + 1) = q + 1 := (i64_w _).trans hqw3
     have HA := aMk H
     clear H
     go_wp2_with (first | (go_at_call 62; (with_reducible refine (cursor_Rune.calls 5 a0 p n _ HRN.out).mono ?_); rintro e w' ⟨rfl, ⟨nd, rfl⟩⟩) | (go_at_call 67; (with_reducible refine (hasQ_calls _ _).mono ?_); rintro e w' ⟨rfl, rfl⟩))
     go_roundg gk'
     case measure => omega
     case rel => exact ⟨x, q + 1, .slice A1 l.length c1, l, t ++ ⟨#[39]⟩, aP92, aP92, HA, HX, ⟨by have := HI.out; have := HN.out; have := HPOS.out; simp only [ByteArray.size_append, show (⟨#[39]⟩ : ByteArray).size = 1 from rfl]; omega⟩, ⟨(HQ.out.drewN _).text _⟩⟩
    ·rw [if_neg hh] at H
     replace hh := Bool.eq_false_iff.mpr hh
     rw [hs'] at hh
     have HA := aMk H
     have hxw : IntKind.i64.wrap (1 - x) = 1 - x := by rw [i64_w]; unfold wrap64; have := HX.out; omega
     clear H
     go_wp2_with (first | (go_at_call 62; (with_reducible refine (cursor_Rune.calls 5 a0 p n _ HRN.out).mono ?_); rintro e w' ⟨rfl, ⟨nd, rfl⟩⟩) | (go_at_call 67; (with_reducible refine (hasQ_calls _ _).mono ?_); rintro e w' ⟨rfl, rfl⟩))
     go_roundg gk'
     case measure => omega
     case rel => exact ⟨1 - x, q, .slice A1 l.length c1, l, t, aP92, aP92, HA, ⟨by have := HX.out; omega⟩, ⟨by have := HI.out; have := HN.out; omega⟩, ⟨HQ.out.drewN _⟩⟩
   rw [if_neg h39] at H
   have e1 : (c.toList == ([39] : List UInt8)) = false := beF h39
   have e2 : (c.toList != ([39] : List UInt8)) = true := bnT h39
   clear h39
   by_cases hx0 : x = 0
   ·rw [if_pos hx0] at H
    have hxb : (x == 0) = true := beT hx0
    clear hx0
    replace H := Option.bind_eq_some_iff.mp H
    obtain ⟨k, hk, H⟩ := H
    have HKD := aMk hk
    clear hk
    by_cases hkp : 0 < k
    ·rw [if_pos hkp] at H
     have hk1 : decide (k > 0) = true := dTr hkp
     have hk2 : decide (0 < k) = true := dTr hkp
     clear hkp
     have HLEN := aMk (And.intro (signL_len (endL l t) k) (endL_len l t))
     by_cases hb : (signL (endL l t) k).2 = true
     ·rw [if_pos hb] at H
      have HA := aMk H
      clear H
      go_wp2_with (first | (go_at_call 62; (with_reducible refine (cursor_Rune.calls 5 a0 p n _ HRN.out).mono ?_); rintro e w' ⟨rfl, ⟨nd, rfl⟩⟩) | (go_at_call 89; (with_reducible refine (affix_kind.calls c k _ HKD.out).mono ?_); rintro e w' ⟨rfl, ⟨nd2, rfl⟩⟩) | (go_at_call 96; (with_reducible refine (sign_calls w _ w.heap.size (.slice A1 l.length c1) l t k (HQD.out _) ?side1).mono ?_); (case side1 => have := HI.out; have := HS.out; omega); rintro e w2 ⟨rfl, v2, hq2⟩; have HQS := aMk hq2; clear hq2))
      go_roundg gk'
      case measure => omega
      case rel => exact ⟨x, q, v2, (signL (endL l t) k).1, ⟨#[]⟩, aP92, aP92, HA, HX, ⟨by have := HI.out; have := HN.out; have := HLEN.out; simp only [show (⟨#[]⟩ : ByteArray).size = 0 from rfl]; omega⟩, HQS⟩
     ·rw [if_neg hb] at H
      replace hb := Bool.eq_false_iff.mpr hb
      simp only [Option.some.injEq, Prod.mk.injEq] at H
      obtain ⟨rfl, rfl⟩ := H
      go_wp2_with (first | (go_at_call 62; (with_reducible refine (cursor_Rune.calls 5 a0 p n _ HRN.out).mono ?_); rintro e w' ⟨rfl, ⟨nd, rfl⟩⟩) | (go_at_call 89; (with_reducible refine (affix_kind.calls c k _ HKD.out).mono ?_); rintro e w' ⟨rfl, ⟨nd2, rfl⟩⟩) | (go_at_call 96; (with_reducible refine (sign_calls w _ w.heap.size (.slice A1 l.length c1) l t k (HQD.out _) ?side1).mono ?_); (case side1 => have := HI.out; have := HS.out; omega); rintro e w2 ⟨rfl, v2, hq2⟩; have HQS := aMk hq2; clear hq2))
      (try rw [Exit.noGoto_ret])
      go_ret2
      exact ⟨_, rfl, clipped_nil _ _, HQS.out.below⟩
    ·rw [if_neg hkp] at H
     have hk1 : decide (k > 0) = false := dFa hkp
     have hk2 : decide (0 < k) = false := dFa hkp
     clear hkp
     by_cases hl : letB c = true
     ·rw [if_pos hl] at H
      have hl2 : Lib.contains [48, 49, 50, 51, 52, 53, 54, 55, 56, 57, 35, 64, 44, 46, 59, 42] c.data.toList = true := hl
      simp only [Option.some.injEq, Prod.mk.injEq] at H
      obtain ⟨rfl, rfl⟩ := H
      clear hl
      go_wp2_with (first | (go_at_call 62; (with_reducible refine (cursor_Rune.calls 5 a0 p n _ HRN.out).mono ?_); rintro e w' ⟨rfl, ⟨nd, rfl⟩⟩) | (go_at_call 89; (with_reducible refine (affix_kind.calls c k _ HKD.out).mono ?_); rintro e w' ⟨rfl, ⟨nd2, rfl⟩⟩) | (go_at_call 90; (with_reducible refine (letter_calls c _ (Glob_below HG.out (HQD.out _).below)).mono ?_); rintro e w' ⟨rfl, rfl⟩))
      (try rw [Exit.noGoto_ret])
      go_ret2
      exact ⟨_, rfl, clipped_nil _ _, (HQ.out.drewN _).below⟩
     ·rw [if_neg hl] at H
      have hl2 : Lib.contains [48, 49, 50, 51, 52, 53, 54, 55, 56, 57, 35, 64, 44, 46, 59, 42] c.data.toList = false := Bool.eq_false_iff.mpr hl
      have HA := aMk H
      clear hl H
      go_wp2_with (first | (go_at_call 62; (with_reducible refine (cursor_Rune.calls 5 a0 p n _ HRN.out).mono ?_); rintro e w' ⟨rfl, ⟨nd, rfl⟩⟩) | (go_at_call 89; (with_reducible refine (affix_kind.calls c k _ HKD.out).mono ?_); rintro e w' ⟨rfl, ⟨nd2, rfl⟩⟩) | (go_at_call 90; (with_reducible refine (letter_calls c _ (Glob_below HG.out (HQD.out _).below)).mono ?_); rintro e w' ⟨rfl, rfl⟩))
      exact aP34
   ·rw [if_neg hx0] at H
    have hxb : (x == 0) = false := beF hx0
    have HA := aMk H
    clear hx0 H
    go_wp2_with (first | (go_at_call 62; (with_reducible refine (cursor_Rune.calls 5 a0 p n _ HRN.out).mono ?_); rintro e w' ⟨rfl, ⟨nd, rfl⟩⟩))
    exact aP34
def quipuref13_one.j0 : Nat → Int → Bool → Int → Int → ByteArray → Option (Bool)
 | 0, _, _, _, _, _ => none
 | k + 1, x4, x21, x128000, x128001, x128002 => if x21 = true then (if x128002.toList = ([] : List UInt8) then (some (x128001 == 0)) else (some false)) else (if x4 = 5 then (if x128002.toList = ([] : List UInt8) then (if x128001 ≥ 1 then (some (decide (x128001 ≤ 3))) else (some false)) else (some false)) else (some false))
def quipuref13_one.f (k : Nat) (a0_0 : Int) (a0_1 : Int) (a0_2 : ByteArray) : Option (Bool) := if a0_0 = 0 then (if a0_2.toList = ([] : List UInt8) then (some false) else (if a0_1 = 0 then ((quipuref11_Runes.f k a0_2).bind fun t128 => (some (decide (t128 ≥ 0)))) else (some false))) else (if a0_0 = 1 then (quipuref13_one.j0 k a0_0 (a0_0 == 1) a0_0 a0_1 a0_2) else (if a0_0 = 2 then (quipuref13_one.j0 k a0_0 (a0_0 == 2) a0_0 a0_1 a0_2) else (if a0_0 = 3 then (quipuref13_one.j0 k a0_0 (a0_0 == 3) a0_0 a0_1 a0_2) else (quipuref13_one.j0 k a0_0 (a0_0 == 4) a0_0 a0_1 a0_2))))
set_option maxHeartbeats 8000000 in
set_option maxRecDepth 100000 in
theorem quipuref13_one.calls (k : Nat) (a0_0 : Int) (a0_1 : Int) (a0_2 : ByteArray) (r : Bool) (w : World) (h : quipuref13_one.f k a0_0 a0_1 a0_2 = some r) :
  Calls Try.prog 79 #[.agg #[.int .i64 a0_0, .int .i64 a0_1, .string a0_2]] w fun e w' => e = .returned (.bool r) ∧ Below w.heap.size w w' := by
 have hu53 := Try.underlying53
 have HB := aMk (Below.refl w.heap.size w)
 have H : (if a0_0 = 0 then (if a0_2.toList = ([] : List UInt8) then (some false) else (if a0_1 = 0 then ((quipuref11_Runes.f k a0_2).bind fun t128 => (some (decide (t128 ≥ 0)))) else (some false))) else (if a0_0 = 1 then (quipuref13_one.j0 k a0_0 (a0_0 == 1) a0_0 a0_1 a0_2) else (if a0_0 = 2 then (quipuref13_one.j0 k a0_0 (a0_0 == 2) a0_0 a0_1 a0_2) else (if a0_0 = 3 then (quipuref13_one.j0 k a0_0 (a0_0 == 3) a0_0 a0_1 a0_2) else (quipuref13_one.j0 k a0_0 (a0_0 == 4) a0_0 a0_1 a0_2))))) = some r := h
 clear h
 by_cases c2 : a0_0 = 0
 ·rw [if_pos c2] at H
  have c2b0 : (a0_0 == 0) = true := beT c2
  have c2b1 : (a0_0 != 0) = false := bnF c2
  clear c2
  by_cases c3 : a0_2.toList = ([] : List UInt8)
  ·rw [if_pos c3] at H
   have c3b0 : (a0_2.toList == ([] : List UInt8)) = true := beT c3
   have c3b1 : (a0_2.toList != ([] : List UInt8)) = false := bnF c3
   clear c3
   obtain rfl := Option.some.inj H
   go_enter Try.func79, Try.ntmps79
   go_wp2_with (first | ((with_reducible refine gate_dst (N := 1) rfl ?_); refine box_event ?hg (N := 1) ?hd (cs := #[.int .i64 a0_0, .int .i64 a0_1, .string a0_2]) (t := 53) ?hr ?_; (case hd => rfl); (case hg => rfl); (case hr => first | (go_simp; done) | (go_simp; rfl)); intro gb127 hg w4 hbox hb; have n0_ := aMk (below_step (aP80) hb); have n1_ := aMk (hbox); have n2_ := aMk ((aP81 : w.heap.size ≤ gb127)); have n3_ := aMk ((aP81 : w.heap.size ≤ gb127)); clear HB; have HB := n0_; have BK127 := n1_; have GW127 := n2_; have GE127 := n3_; clear n0_ n1_ n2_ n3_; clear hb hbox hg; have hcz5_0 : w4.cell? ⟨gb127, 0, none⟩ = some (.int .i64 a0_0) := (blk_cell BK127.out 0).trans rfl; have hcz5_1 : w4.cell? ⟨gb127, 1, none⟩ = some (.int .i64 a0_1) := (blk_cell BK127.out 1).trans rfl; have hcz5_2 : w4.cell? ⟨gb127, 2, none⟩ = some (.string a0_2) := (blk_cell BK127.out 2).trans rfl; have hfz5_0 := blk_frozen BK127.out 0; have hfz5_1 := blk_frozen BK127.out 1; have hfz5_2 := blk_frozen BK127.out 2))
   exact aP33
  ·rw [if_neg c3] at H
   have c3b0 : (a0_2.toList == ([] : List UInt8)) = false := beF c3
   have c3b1 : (a0_2.toList != ([] : List UInt8)) = true := bnT c3
   by_cases c6 : a0_1 = 0
   ·rw [if_pos c6] at H
    have c6b0 : (a0_1 == 0) = true := beT c6
    have c6b1 : (a0_1 != 0) = false := bnF c6
    clear c6
    replace H := Option.bind_eq_some_iff.mp H
    obtain ⟨t128, A70, H⟩ := H
    replace H : (some (decide (t128 ≥ 0))) = some r := H
    have A7 := aMk A70
    clear A70
    obtain rfl := Option.some.inj H
    go_enter Try.func79, Try.ntmps79
    go_wp2_with (first | ((with_reducible refine gate_dst (N := 1) rfl ?_); refine box_event ?hg (N := 1) ?hd (cs := #[.int .i64 a0_0, .int .i64 a0_1, .string a0_2]) (t := 53) ?hr ?_; (case hd => rfl); (case hg => rfl); (case hr => first | (go_simp; done) | (go_simp; rfl)); intro gb127 hg w8 hbox hb; have n0_ := aMk (below_step (aP80) hb); have n1_ := aMk (hbox); have n2_ := aMk ((aP81 : w.heap.size ≤ gb127)); have n3_ := aMk ((aP81 : w.heap.size ≤ gb127)); clear HB; have HB := n0_; have BK127 := n1_; have GW127 := n2_; have GE127 := n3_; clear n0_ n1_ n2_ n3_; clear hb hbox hg; have hcz9_0 : w8.cell? ⟨gb127, 0, none⟩ = some (.int .i64 a0_0) := (blk_cell BK127.out 0).trans rfl; have hcz9_1 : w8.cell? ⟨gb127, 1, none⟩ = some (.int .i64 a0_1) := (blk_cell BK127.out 1).trans rfl; have hcz9_2 : w8.cell? ⟨gb127, 2, none⟩ = some (.string a0_2) := (blk_cell BK127.out 2).trans rfl; have hfz9_0 := blk_frozen BK127.out 0; have hfz9_1 := blk_frozen BK127.out 1; have hfz9_2 := blk_frozen BK127.out 2) | (go_at_call 57; (with_reducible refine (quipuref11_Runes.calls k a0_2 t128 _ A7.out).mono ?_); rintro e w' ⟨rfl, ⟨nd, rfl⟩⟩))
    exact aP33
   ·rw [if_neg c6] at H
    have c6b0 : (a0_1 == 0) = false := beF c6
    have c6b1 : (a0_1 != 0) = true := bnT c6
    obtain rfl := Option.some.inj H
    go_enter Try.func79, Try.ntmps79
    go_wp2_with (first | ((with_reducible refine gate_dst (N := 1) rfl ?_); refine box_event ?hg (N := 1) ?hd (cs := #[.int .i64 a0_0, .int .i64 a0_1, .string a0_2]) (t := 53) ?hr ?_; (case hd => rfl); (case hg => rfl); (case hr => first | (go_simp; done) | (go_simp; rfl)); intro gb127 hg w10 hbox hb; have n0_ := aMk (below_step (aP80) hb); have n1_ := aMk (hbox); have n2_ := aMk ((aP81 : w.heap.size ≤ gb127)); have n3_ := aMk ((aP81 : w.heap.size ≤ gb127)); clear HB; have HB := n0_; have BK127 := n1_; have GW127 := n2_; have GE127 := n3_; clear n0_ n1_ n2_ n3_; clear hb hbox hg; have hcz11_0 : w10.cell? ⟨gb127, 0, none⟩ = some (.int .i64 a0_0) := (blk_cell BK127.out 0).trans rfl; have hcz11_1 : w10.cell? ⟨gb127, 1, none⟩ = some (.int .i64 a0_1) := (blk_cell BK127.out 1).trans rfl; have hcz11_2 : w10.cell? ⟨gb127, 2, none⟩ = some (.string a0_2) := (blk_cell BK127.out 2).trans rfl; have hfz11_0 := blk_frozen BK127.out 0; have hfz11_1 := blk_frozen BK127.out 1; have hfz11_2 := blk_frozen BK127.out 2))
    exact aP33
 ·rw [if_neg c2] at H
  have c2b0 : (a0_0 == 0) = false := beF c2
  have c2b1 : (a0_0 != 0) = true := bnT c2
  have HC12 := aMk H
  clear H
  go_enter Try.func79, Try.ntmps79
  go_upto_if 21 with (first | ((with_reducible refine gate_dst (N := 1) rfl ?_); refine box_event ?hg (N := 1) ?hd (cs := #[.int .i64 a0_0, .int .i64 a0_1, .string a0_2]) (t := 53) ?hr ?_; (case hd => rfl); (case hg => rfl); (case hr => first | (go_simp; done) | (go_simp; rfl)); intro gb127 hg w13 hbox hb; have n0_ := aMk (below_step (aP80) hb); have n1_ := aMk (hbox); have n2_ := aMk ((aP81 : w.heap.size ≤ gb127)); have n3_ := aMk ((aP81 : w.heap.size ≤ gb127)); clear HB; have HB := n0_; have BK127 := n1_; have GW127 := n2_; have GE127 := n3_; clear n0_ n1_ n2_ n3_; clear hb hbox hg; have hcz14_0 : w13.cell? ⟨gb127, 0, none⟩ = some (.int .i64 a0_0) := (blk_cell BK127.out 0).trans rfl; have hcz14_1 : w13.cell? ⟨gb127, 1, none⟩ = some (.int .i64 a0_1) := (blk_cell BK127.out 1).trans rfl; have hcz14_2 : w13.cell? ⟨gb127, 2, none⟩ = some (.string a0_2) := (blk_cell BK127.out 2).trans rfl; have hfz14_0 := blk_frozen BK127.out 0; have hfz14_1 := blk_frozen BK127.out 1; have hfz14_2 := blk_frozen BK127.out 2))
  (try simp only [Act.put, List.setIfInBounds_toArray, List.set_cons_zero, List.set_cons_succ])
  go_cut [21] (fun v21 wc => ∃ (kq : Nat) (x21_11 : Bool), v21 = .bool x21_11 ∧ Aside0 (quipuref13_one.j0 kq a0_0 x21_11 a0_0 a0_1 a0_2 = some r) ∧ Aside0 (kq ≤ k) ∧ Aside0 (wc.heap[gb127]? = some (.cells #[.int .i64 a0_0, .int .i64 a0_1, .string a0_2] 53 (0, 0))) ∧ Aside0 (Below w.heap.size w wc))
  case first =>
   have H := HC12.out
   clear HC12
   by_cases c15 : a0_0 = 1
   ·rw [if_pos c15] at H
    have c15b0 : (a0_0 == 1) = true := beT c15
    have c15b1 : (a0_0 != 1) = false := bnF c15
    clear c15
    (first | rw [c15b0] | (simp only [i64_w, i32_w]; rw [c15b0]) | skip)
    have H' := aMk H
    clear H
    go_wp2
    go_meet
    case rel => exact ⟨_, ((a0_0 == 1)), (aP77), H', ⟨aP82⟩, ⟨aP100⟩, ⟨aP101⟩⟩
   ·rw [if_neg c15] at H
    have c15b0 : (a0_0 == 1) = false := beF c15
    have c15b1 : (a0_0 != 1) = true := bnT c15
    (first | rw [c15b0] | (simp only [i64_w, i32_w]; rw [c15b0]) | skip)
    by_cases c16 : a0_0 = 2
    ·rw [if_pos c16] at H
     have c16b0 : (a0_0 == 2) = true := beT c16
     have c16b1 : (a0_0 != 2) = false := bnF c16
     clear c16
     have H' := aMk H
     clear H
     go_wp2
     go_meet
     case rel => exact ⟨_, ((a0_0 == 2)), (aP77), H', ⟨aP82⟩, ⟨aP100⟩, ⟨aP101⟩⟩
    ·rw [if_neg c16] at H
     have c16b0 : (a0_0 == 2) = false := beF c16
     have c16b1 : (a0_0 != 2) = true := bnT c16
     by_cases c17 : a0_0 = 3
     ·rw [if_pos c17] at H
      have c17b0 : (a0_0 == 3) = true := beT c17
      have c17b1 : (a0_0 != 3) = false := bnF c17
      clear c17
      have H' := aMk H
      clear H
      go_wp2
      go_meet
      case rel => exact ⟨_, ((a0_0 == 3)), (aP77), H', ⟨aP82⟩, ⟨aP100⟩, ⟨aP101⟩⟩
     ·rw [if_neg c17] at H
      have c17b0 : (a0_0 == 3) = false := beF c17
      have c17b1 : (a0_0 != 3) = true := bnT c17
      have H' := aMk H
      clear H
      go_wp2
      go_meet
      case rel => exact ⟨_, ((a0_0 == 4)), (aP77), H', ⟨aP82⟩, ⟨aP100⟩, ⟨aP101⟩⟩
  case rest =>
   clear HC12
   try clear c1
   try clear c2
   try clear c2b0
   try clear c2b1
   try clear p2
   try clear c3
   try clear c3b0
   try clear c3b1
   try clear c6
   try clear c6b0
   try clear c6b1
   try clear c7
   try clear c15
   try clear c15b0
   try clear c15b1
   try clear c16
   try clear c16b0
   try clear c16b1
   try clear c17
   try clear c17b0
   try clear c17b1
   try clear hcz11_0
   try clear hcz11_1
   try clear hcz11_2
   try clear hcz14_0
   try clear hcz14_1
   try clear hcz14_2
   try clear hcz5_0
   try clear hcz5_1
   try clear hcz5_2
   try clear hcz9_0
   try clear hcz9_1
   try clear hcz9_2
   try clear hfz11_0
   try clear hfz11_1
   try clear hfz11_2
   try clear hfz14_0
   try clear hfz14_1
   try clear hfz14_2
   try clear hfz5_0
   try clear hfz5_1
   try clear hfz5_2
   try clear hfz9_0
   try clear hfz9_1
   try clear hfz9_2
   obtain ⟨kq, x21_11, rfl, HA, HJ11, BK127, HB⟩ := hcut
   cases kq with
   | zero => exact absurd HA.out (by simp [quipuref13_one.j0])
   | succ kj11 =>
    have H := HA.out
    clear HA
    simp only [quipuref13_one.j0] at H
    by_cases c18 : x21_11 = true
    ·subst c18
     have H1 : (if a0_2.toList = ([] : List UInt8) then (some (a0_1 == 0)) else (some false)) = some r := aP79
     clear H
     have H := H1
     clear H1
     by_cases c19 : a0_2.toList = ([] : List UInt8)
     ·rw [if_pos c19] at H
      have c19b0 : (a0_2.toList == ([] : List UInt8)) = true := beT c19
      have c19b1 : (a0_2.toList != ([] : List UInt8)) = false := bnF c19
      clear c19
      obtain rfl := Option.some.inj H
      have hcz20_0 : wc.cell? ⟨gb127, 0, none⟩ = some (.int .i64 a0_0) := (blk_cell BK127.out 0).trans rfl
      have hcz20_1 : wc.cell? ⟨gb127, 1, none⟩ = some (.int .i64 a0_1) := (blk_cell BK127.out 1).trans rfl
      have hcz20_2 : wc.cell? ⟨gb127, 2, none⟩ = some (.string a0_2) := (blk_cell BK127.out 2).trans rfl
      have hfz20_0 := blk_frozen BK127.out 0
      have hfz20_1 := blk_frozen BK127.out 1
      have hfz20_2 := blk_frozen BK127.out 2
      exact aP32
     ·rw [if_neg c19] at H
      have c19b0 : (a0_2.toList == ([] : List UInt8)) = false := beF c19
      have c19b1 : (a0_2.toList != ([] : List UInt8)) = true := bnT c19
      obtain rfl := Option.some.inj H
      have hcz21_0 : wc.cell? ⟨gb127, 0, none⟩ = some (.int .i64 a0_0) := (blk_cell BK127.out 0).trans rfl
      have hcz21_1 : wc.cell? ⟨gb127, 1, none⟩ = some (.int .i64 a0_1) := (blk_cell BK127.out 1).trans rfl
      have hcz21_2 : wc.cell? ⟨gb127, 2, none⟩ = some (.string a0_2) := (blk_cell BK127.out 2).trans rfl
      have hfz21_0 := blk_frozen BK127.out 0
      have hfz21_1 := blk_frozen BK127.out 1
      have hfz21_2 := blk_frozen BK127.out 2
      exact aP32
    ·replace c18 := Bool.eq_false_iff.mpr c18
     subst c18
     have H1 : (if a0_0 = 5 then (if a0_2.toList = ([] : List UInt8) then (if a0_1 ≥ 1 then (some (decide (a0_1 ≤ 3))) else (some false)) else (some false)) else (some false)) = some r := aP74
     clear H
     have H := H1
     clear H1
     by_cases c22 : a0_0 = 5
     ·rw [if_pos c22] at H
      have c22b0 : (a0_0 == 5) = true := beT c22
      have c22b1 : (a0_0 != 5) = false := bnF c22
      clear c22
      by_cases c23 : a0_2.toList = ([] : List UInt8)
      ·rw [if_pos c23] at H
       have c23b0 : (a0_2.toList == ([] : List UInt8)) = true := beT c23
       have c23b1 : (a0_2.toList != ([] : List UInt8)) = false := bnF c23
       clear c23
       by_cases c24 : a0_1 ≥ 1
       ·rw [if_pos c24] at H
        have c24b0 : decide (1 ≤ a0_1) = true := dTr c24
        clear c24
        obtain rfl := Option.some.inj H
        have hcz25_0 : wc.cell? ⟨gb127, 0, none⟩ = some (.int .i64 a0_0) := (blk_cell BK127.out 0).trans rfl
        have hcz25_1 : wc.cell? ⟨gb127, 1, none⟩ = some (.int .i64 a0_1) := (blk_cell BK127.out 1).trans rfl
        have hcz25_2 : wc.cell? ⟨gb127, 2, none⟩ = some (.string a0_2) := (blk_cell BK127.out 2).trans rfl
        have hfz25_0 := blk_frozen BK127.out 0
        have hfz25_1 := blk_frozen BK127.out 1
        have hfz25_2 := blk_frozen BK127.out 2
        exact aP32
       ·rw [if_neg c24] at H
        have c24b0 : decide (1 ≤ a0_1) = false := dFa c24
        clear c24
        obtain rfl := Option.some.inj H
        have hcz26_0 : wc.cell? ⟨gb127, 0, none⟩ = some (.int .i64 a0_0) := (blk_cell BK127.out 0).trans rfl
        have hcz26_1 : wc.cell? ⟨gb127, 1, none⟩ = some (.int .i64 a0_1) := (blk_cell BK127.out 1).trans rfl
        have hcz26_2 : wc.cell? ⟨gb127, 2, none⟩ = some (.string a0_2) := (blk_cell BK127.out 2).trans rfl
        have hfz26_0 := blk_frozen BK127.out 0
        have hfz26_1 := blk_frozen BK127.out 1
        have hfz26_2 := blk_frozen BK127.out 2
        exact aP32
      ·rw [if_neg c23] at H
       have c23b0 : (a0_2.toList == ([] : List UInt8)) = false := beF c23
       have c23b1 : (a0_2.toList != ([] : List UInt8)) = true := bnT c23
       obtain rfl := Option.some.inj H
       have hcz27_0 : wc.cell? ⟨gb127, 0, none⟩ = some (.int .i64 a0_0) := (blk_cell BK127.out 0).trans rfl
       have hcz27_1 : wc.cell? ⟨gb127, 1, none⟩ = some (.int .i64 a0_1) := (blk_cell BK127.out 1).trans rfl
       have hcz27_2 : wc.cell? ⟨gb127, 2, none⟩ = some (.string a0_2) := (blk_cell BK127.out 2).trans rfl
       have hfz27_0 := blk_frozen BK127.out 0
       have hfz27_1 := blk_frozen BK127.out 1
       have hfz27_2 := blk_frozen BK127.out 2
       exact aP32
     ·rw [if_neg c22] at H
      have c22b0 : (a0_0 == 5) = false := beF c22
      have c22b1 : (a0_0 != 5) = true := bnT c22
      obtain rfl := Option.some.inj H
      exact aP32
end Go.Proofs.Ytacnjemndfmbhaa.Q
end

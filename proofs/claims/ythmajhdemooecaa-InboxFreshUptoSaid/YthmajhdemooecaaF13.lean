/- The walks of a batch's reading. -/
import Derived.Test.YthmajhdemooecaaF12
namespace Go.Proofs.Ythmajhdemooecaa
open Go.PM Go.RowKit
set_option linter.unusedVariables false
set_option linter.unusedSimpArgs false
set_option linter.unnecessarySimpa false
attribute [local irreducible] adv advD advF fuel

theorem pf67 : plainFn Try.prog 67 = true := by kernel_rfl
theorem pf66 : plainFn Try.prog 66 = true := by kernel_rfl
theorem pf31 : plainFn Try.prog 31 = true := by kernel_rfl

def readNumP (x : Item) : Int × Int :=
  if x.parts.1 = true ∨ 0 < x.parts.2.2.length ∨ 8 < x.parts.2.1.length ∨ x.parts.2.1.head? = some 0 then (0, 8) else (num x.parts.2.1, 0)

set_option maxHeartbeats 1000000 in
theorem readNum67_calls {x : Item} {vb vl : Value} {w : World} {d : Ty Item} (hb : Sl Ty.u8 w Any x.parts.2.1 vb) (hl : Sl d w Any x.parts.2.2 vl) :
    Calls Try.prog 67 #[.agg #[.bool x.parts.1, vb, vl]] w fun e w' => e = .returned (.tuple #[.int .u64 (readNumP x).1, .int .i64 (readNumP x).2]) ∧ Ext w w' := by
  obtain ⟨il, b, l⟩ := x
  simp only [Item.parts] at hb hl ⊢
  obtain ⟨Ab, cb, rfl⟩ := hb.form
  obtain ⟨Al, cl, rfl⟩ := hl.form
  have H := HS.refl w
  have bad : ∀ {w' : World}, (il = true ∨ 0 < l.length ∨ 8 < b.length ∨ b.head? = some 0) → Ext w w' → Ending.returned (.tuple #[.int .u64 0, .int .i64 8]) = Ending.returned (.tuple #[.int .u64 (readNumP (.mk il b l)).1, .int .i64 (readNumP (.mk il b l)).2]) ∧ Ext w w' := by
    intro w' h hE
    have : readNumP (.mk il b l) = (0, 8) := if_pos h
    rw [this]; exact ⟨rfl, hE⟩
  refine calls_run Try.func67 (by kernel_rfl) ?_
  refine run_box (t := 102) (v := .agg #[.bool il, .slice Ab b.length cb, .slice Al l.length cl]) H (by kernel_rfl) (by kernel_rfl) fun b1 wc H => ?_
  refine run_ld (n := 0) (t := 4) (off := 0) (v := .bool il) H rfl (by kernel_rfl) (by kernel_rfl) (by kernel_rfl) ?_
  cases il
  case true =>
    refine run_lit (.bool true) (by kernel_rfl) (by kernel_rfl) ?_
    refine run_lit (.bool true) (by kernel_rfl) (by kernel_rfl) ?_
    refine run_lit (.bool true) (by kernel_rfl) (by kernel_rfl) ?_
    refine run_cond (t := true) (by kernel_rfl) (by kernel_rfl) (fun _ => ?_) (fun h => by cases h)
    exact run_ret (v := .tuple #[.int .u64 0, .int .i64 8]) (by kernel_rfl) (by kernel_rfl) (resN Try.results67 (vs := [.int .u64 0, .int .i64 8]) (by simp) ⟨rv_tmp (by kernel_rfl), rv_tmp (by kernel_rfl), trivial⟩) (bad (.inl rfl) H.below)
  refine run_lit (.bool false) (by kernel_rfl) (by kernel_rfl) ?_
  refine run_ld (n := 0) (t := 100) (off := 2) (v := .slice Al l.length cl) H rfl (by kernel_rfl) (by kernel_rfl) (by kernel_rfl) ?_
  refine run_ask ((l.length : Int) > 0) (by kernel_rfl) (by kernel_rfl) (fun hc => ?_) (fun hc => ?_)
  · refine run_lit (.bool true) (by kernel_rfl) (by kernel_rfl) ?_
    refine run_cond (t := true) (by kernel_rfl) (by kernel_rfl) (fun _ => ?_) (fun h => by cases h)
    exact run_ret (v := .tuple #[.int .u64 0, .int .i64 8]) (by kernel_rfl) (by kernel_rfl) (resN Try.results67 (vs := [.int .u64 0, .int .i64 8]) (by simp) ⟨rv_tmp (by kernel_rfl), rv_tmp (by kernel_rfl), trivial⟩) (bad (.inr (.inl (by omega))) H.below)
  have h1 := hc
  clear hc
  refine run_ld (n := 0) (t := 27) (off := 1) (v := .slice Ab b.length cb) H rfl (by kernel_rfl) (by kernel_rfl) (by kernel_rfl) ?_
  refine run_ask ((b.length : Int) > 8) (by kernel_rfl) (by kernel_rfl) (fun hc => ?_) (fun hc => ?_)
  · refine run_cond (t := true) (by kernel_rfl) (by kernel_rfl) (fun _ => ?_) (fun h => by cases h)
    exact run_ret (v := .tuple #[.int .u64 0, .int .i64 8]) (by kernel_rfl) (by kernel_rfl) (resN Try.results67 (vs := [.int .u64 0, .int .i64 8]) (by simp) ⟨rv_tmp (by kernel_rfl), rv_tmp (by kernel_rfl), trivial⟩) (bad (.inr (.inr (.inl (by omega)))) H.below)
  have h2 := hc
  clear hc
  refine run_ld (n := 0) (t := 27) (off := 1) (v := .slice Ab b.length cb) H rfl (by kernel_rfl) (by kernel_rfl) (by kernel_rfl) ?_
  have good : ∀ {w' : World}, ¬ (b.head? = some 0) → Ext w w' → Ending.returned (.tuple #[.int .u64 (num b), .int .i64 0]) = Ending.returned (.tuple #[.int .u64 (readNumP (.mk false b l)).1, .int .i64 (readNumP (.mk false b l)).2]) ∧ Ext w w' := by
    intro w' h hE
    have : readNumP (.mk false b l) = (num b, 0) := by
      unfold readNumP
      rw [if_neg]
      · rfl
      · simp only [Item.parts]
        rintro (h' | h' | h' | h')
        · cases h'
        · omega
        · omega
        · exact h h'
    rw [this]; exact ⟨rfl, hE⟩
  refine run_ask ((b.length : Int) > 0) (by kernel_rfl) (by kernel_rfl) (fun hc => ?_) (fun hc => ?_)
  · have h3 := hc
    clear hc
    obtain ⟨c0, hc0⟩ : ∃ c0, b[0]? = some c0 := ⟨_, List.getElem?_eq_getElem (by omega)⟩
    obtain ⟨bb, o, cs, rfl, ⟨hcs, -⟩, hcell⟩ := (hb.ext H.below).get hc0
    subst hcs
    have hhead : b.head? = some c0 := by rw [List.head?_eq_getElem?]; exact hc0
    have hz : c0.toNat = 0 ↔ c0 = 0 := ⟨fun h => UInt8.toNat_inj.1 (by simpa using h), fun h => by rw [h]; rfl⟩
    refine run_ld (n := 0) (t := 27) (off := 1) (v := .slice (some ⟨bb, o, none⟩) b.length cb) H rfl (by kernel_rfl) (by kernel_rfl) (by kernel_rfl) ?_
    refine run_val (v := .pointer (some ⟨bb, o + 0 * 1, none⟩)) (by kernel_rfl) (op_indexN (t := 27) (e := 5) (n := b.length) (c := cb) (k := .i64) (by kernel_rfl) (by kernel_rfl) (by kernel_rfl) (by omega)) ?_
    refine run_val (v := .int .u8 (c0.toNat : Int)) (by kernel_rfl) (op_load (t := 5) (b := bb) (off := o + 0 * 1) (by kernel_rfl) (run_loadVar_one (by kernel_rfl) (hcell 0 _ rfl))) ?_
    refine run_if (p := (c0.toNat : Int) = 0) (by kernel_rfl) (by kernel_rfl) (fun hc => ?_) (fun hc => ?_)
    · exact run_ret (v := .tuple #[.int .u64 0, .int .i64 8]) (by kernel_rfl) (by kernel_rfl) (resN Try.results67 (vs := [.int .u64 0, .int .i64 8]) (by simp) ⟨rv_tmp (by kernel_rfl), rv_tmp (by kernel_rfl), trivial⟩) (bad (.inr (.inr (.inr (by rw [hhead, hz.1 (by omega)])))) H.below)
    · refine run_ld (n := 0) (t := 27) (off := 1) (v := .slice (some ⟨bb, o, none⟩) b.length cb) H rfl (by kernel_rfl) (by kernel_rfl) (by kernel_rfl) ?_
      refine run_call (f := 99) (args := #[.slice (some ⟨bb, o, none⟩) b.length cb]) (by kernel_rfl) (by kernel_rfl) pf99 (number99_calls (hb.ext H.below) (by omega)) fun e wc ⟨he, hw⟩ => ⟨_, he, ?_⟩
      subst hw
      exact run_ret (v := .tuple #[.int .u64 (num b), .int .i64 0]) (by kernel_rfl) (by kernel_rfl) (resN Try.results67 (vs := [.int .u64 (num b), .int .i64 0]) (by simp) ⟨rv_tmp (by kernel_rfl), rv_tmp (by kernel_rfl), trivial⟩) (good (by rw [hhead]; intro h; injection h with h; exact hc (by have := hz.2 h; omega)) H.below)
  · refine run_cond (t := false) (by kernel_rfl) (by kernel_rfl) (fun h => by cases h) (fun _ => ?_)
    refine run_ld (n := 0) (t := 27) (off := 1) (v := .slice Ab b.length cb) H rfl (by kernel_rfl) (by kernel_rfl) (by kernel_rfl) ?_
    refine run_call (f := 99) (args := #[.slice Ab b.length cb]) (by kernel_rfl) (by kernel_rfl) pf99 (number99_calls (hb.ext H.below) (by omega)) fun e wc ⟨he, hw⟩ => ⟨_, he, ?_⟩
    subst hw
    have hbn : b = [] := List.length_eq_zero_iff.1 (by omega)
    exact run_ret (v := .tuple #[.int .u64 (num b), .int .i64 0]) (by kernel_rfl) (by kernel_rfl) (resN Try.results67 (vs := [.int .u64 (num b), .int .i64 0]) (by simp) ⟨rv_tmp (by kernel_rfl), rv_tmp (by kernel_rfl), trivial⟩) (good (by rw [hbn]; simp) H.below)

set_option maxHeartbeats 1000000 in
/-- The next of the items that are left. -/
theorem next66_calls {w0 w : World} {L : List Ck} {n b6 b o k c m : Nat} {xs : List Item} {css : Nat → List Value} {x : Item}
    (H : HS w0 w (Ck.blk b6 100 #[.slice (some ⟨b, o + k * 3, none⟩) (m + 1) c] :: Ck.rowK (itemT n) b o xs css :: L)) (hx : xs[k]? = some x) (hc : m + 1 ≤ c) (hc2 : c ≤ maxLen) :
    Calls Try.prog 66 #[.pointer (some ⟨b6, 0, none⟩)] w fun e w' => ∃ vb vl, css k = [.bool x.parts.1, vb, vl] ∧ e = .returned (.agg #[.bool x.parts.1, vb, vl]) ∧
      HS w0 w' (Ck.blk b6 100 #[.slice (if c = 1 then some ⟨b, o + k * 3, none⟩ else some ⟨b, o + (k + 1) * 3, none⟩) m (c - 1)] :: Ck.rowK (itemT n) b o xs css :: L) := by
  obtain ⟨hK, hcell⟩ := H.rowK 1 rfl hx
  obtain ⟨vb, vl, hcs, hb, hl⟩ := item_open n hK
  rw [hcs, itemT_sz] at hcell
  obtain ⟨Ab, cb, rfl⟩ := hb.form
  obtain ⟨Al, cl, rfl⟩ := hl.form
  have HI := H
  have H := HS.refl w
  refine calls_run Try.func66 (by kernel_rfl) ?_
  refine run_alloc (t := 102) (v := .agg #[.bool false, .slice none 0 0, .slice none 0 0]) H (by kernel_rfl) (by kernel_rfl) fun b1 wc H => ?_
  refine run_ld (n := 0) (t := 100) (off := 0) (v := .slice (some ⟨b, o + k * 3, none⟩) (m + 1) c) (HI.ext H.below) rfl (by kernel_rfl) (by kernel_rfl) (by kernel_rfl) ?_
  refine run_val (v := .pointer (some ⟨b, (o+k*3) + 0 * 3, none⟩)) (by kernel_rfl) (op_indexN (t := 100) (e := 102) (n := (m+1)) (c := c) (k := .i64) (by kernel_rfl) (by kernel_rfl) (by kernel_rfl) (by omega)) ?_
  refine run_val (v := .agg #[.bool x.parts.1, .slice Ab x.parts.2.1.length cb, .slice Al x.parts.2.2.length cl]) (by kernel_rfl) (op_load (t := 102) (b := b) (off := o + k * 3 + 0 * 3) (by kernel_rfl) (run_loadVar_agg (cs := [.bool x.parts.1, .slice Ab x.parts.2.1.length cb, .slice Al x.parts.2.2.length cl]) (by kernel_rfl) (by kernel_rfl) fun i v hi => by
    have := cell_ext (hcell i v hi) H.below
    rw [Nat.zero_mul, Nat.add_zero]; exact this)) ?_
  refine run_alloc (t := 102) (v := .agg #[.bool false, .slice none 0 0, .slice none 0 0]) H (by kernel_rfl) (by kernel_rfl) fun b2 wc H => ?_
  refine run_st (n := 0) (t := 102) (off := 0) (v := .agg #[.bool x.parts.1, .slice Ab x.parts.2.1.length cb, .slice Al x.parts.2.2.length cl]) (cs' := #[.bool x.parts.1, .slice Ab x.parts.2.1.length cb, .slice Al x.parts.2.2.length cl]) H rfl (by kernel_rfl) (by kernel_rfl) (by kernel_rfl) fun wc H => ?_
  refine run_ld (n := 0) (t := 100) (off := 0) (v := .slice (some ⟨b, o + k * 3, none⟩) (m + 1) c) (HI.ext H.below) rfl (by kernel_rfl) (by kernel_rfl) (by kernel_rfl) ?_
  obtain ⟨A', hA⟩ : ∃ A', A' = if c = 1 then some ⟨b, o + k * 3, none⟩ else some (⟨b, o + (k + 1) * 3, none⟩ : Addr) := ⟨_, rfl⟩
  rw [← hA]
  refine run_val (v := .slice A' m (c - 1)) (by kernel_rfl) (op_slice' (t := 100) (e := 102) (sz := 3) (n := m + 1) (c := c) (A := some ⟨b, o + k * 3, none⟩) (l := 1) (h := m + 1) (lo := some (.int .i64 1)) (hi := none) (by kernel_rfl) (by kernel_rfl) (by kernel_rfl) (.inr ⟨_, _, rfl, rfl⟩) (.inl ⟨rfl, rfl⟩) (by omega) hc (by
    rw [hA, Option.map_some, add_off]
    split
    · rfl
    · congr 2; omega) (by omega) rfl) ?_
  have H := (HI.join H).pick 2 rfl
  refine run_st (n := 0) (t := 100) (off := 0) (v := .slice A' m (c - 1)) (cs' := #[.slice A' m (c - 1)]) H rfl (by kernel_rfl) (by kernel_rfl) (by kernel_rfl) fun wc H => ?_
  refine run_ld (n := 1) (t := 102) (off := 0) (v := .agg #[.bool x.parts.1, .slice Ab x.parts.2.1.length cb, .slice Al x.parts.2.2.length cl]) H rfl (by kernel_rfl) (by kernel_rfl) (by kernel_rfl) ?_
  refine run_st (n := 2) (t := 102) (off := 0) (v := .agg #[.bool x.parts.1, .slice Ab x.parts.2.1.length cb, .slice Al x.parts.2.2.length cl]) (cs' := #[.bool x.parts.1, .slice Ab x.parts.2.1.length cb, .slice Al x.parts.2.2.length cl]) H rfl (by kernel_rfl) (by kernel_rfl) (by kernel_rfl) fun wc H => ?_
  exact run_ret (v := .agg #[.bool x.parts.1, .slice Ab x.parts.2.1.length cb, .slice Al x.parts.2.2.length cl]) (by kernel_rfl) (by kernel_rfl) (res1 Try.results66 (rv_cell (H.blk 2 rfl) (by kernel_rfl) (by kernel_rfl))) ⟨_, _, hcs, rfl, (((H.pick 1 rfl).drop).pick 1 rfl).drop⟩
end Go.Proofs.Ythmajhdemooecaa

/- The walk of ReadBatch. -/
import Derived.Test.YthmajhdemooecaaF13
namespace Go.Proofs.Ythmajhdemooecaa
open Go.PM Go.RowKit
set_option linter.unusedVariables false
set_option linter.unusedSimpArgs false
set_option linter.unnecessarySimpa false
attribute [local irreducible] adv advD advF fuel

structure Batch where
  number : Int
  take : Int
  msgs : List Bytes
def Batch.zero : Batch := ⟨0, 0, []⟩
def batchP (x : Item) : Batch × Int :=
  if x.parts.1 = false ∨ x.parts.2.2.length ≠ 3 then (.zero, 8) else
  match x.parts.2.2 with
  | [a, b, c] =>
    if (readNumP a).2 ≠ 0 then (.zero, 8) else if (readNumP b).2 ≠ 0 then (.zero, 8)
    else if c.parts.1 = false ∨ 4096 < c.parts.2.2.length then (.zero, 8)
    else if c.parts.2.2.any (fun y => y.parts.1) then (.zero, 8)
    else (⟨(readNumP a).1, (readNumP b).1, c.parts.2.2.map fun y => y.parts.2.1⟩, 0)
  | _ => (.zero, 8)
def readBatchP (b : Bytes) : Batch × Int := if (decP b).2 ≠ 0 then (.zero, (decP b).2) else batchP (decP b).1

def RetBatch (w : World) (e : Ending) (w' : World) (y : Batch) (er : Int) : Prop :=
  ∃ vm, e = .returned (.tuple #[.agg #[.int .u64 y.number, .int .u64 y.take, vm], .int .i64 er]) ∧ HS w w' [Ck.own bytesT 27 vm y.msgs]

def zBatch : Array Value := #[.int .u64 0, .int .u64 0, .slice none 0 0]
theorem Item.parts_mk (a : Bool) (b : Bytes) (c : List Item) : (Item.mk a b c).parts = (a, b, c) := rfl
theorem item_list (n : Nat) {w : World} {S : Nat → Prop} {x : Item} {a vb vl : Value} (h : (itemT n).K w S x [a, vb, vl]) : Sl (listT n) w S x.parts.2.2 vl := by
  obtain ⟨vb', vl', hcs, h1, h2⟩ := item_open n h
  simp only [List.cons.injEq, and_true] at hcs
  obtain ⟨_, _, rfl⟩ := hcs
  exact h2
theorem row_form {w0 w : World} {L : List Ck} {e : TypeId} {sz n : Nat} {v : Value} {cs : List Value} (h : HS w0 w (Ck.row e sz v n cs :: L)) : ∃ A c, v = .slice A n c := by
  obtain ⟨S, ⟨h1, -⟩, -⟩ := h.nth 0 rfl
  rcases h1.2 with ⟨rfl, hn⟩ | ⟨g, cap, cur, rfl, -⟩
  · subst hn; exact ⟨_, _, rfl⟩
  · exact ⟨_, _, rfl⟩
theorem row_nil {w0 w : World} {L : List Ck} (h : HS w0 w L) (e : TypeId) (sz : Nat) : HS w0 w (Ck.row e sz (.slice none 0 0) 0 [] :: L) :=
  h.new (Ext.refl w) (S := fun _ => False) ⟨World.ownsRow_nil _ _ _ _, fun b hb => by simp [Value.ownBlock] at hb⟩ fun k hk => hk.elim

/-- The bytes' values of items whose cells are known. -/
def bvals (css : Nat → List Value) (n : Nat) : List Value := (List.range n).map fun j => (css j).getD 1 undef
theorem row_msgs {w0 w : World} {L : List Ck} {n b o : Nat} {xs : List Item} {css : Nat → List Value} {vm : Value} (h : HS w0 w (Ck.row 27 1 vm xs.length (bvals css xs.length) :: Ck.rowK (itemT n) b o xs css :: L)) :
    HS w0 w (Ck.own bytesT 27 vm (xs.map fun y => y.parts.2.1) :: L) := by
  refine h.merge.map fun S hS => ?_
  obtain ⟨S1, S2, h1, h2, h3, h4, h5⟩ := hS
  refine ⟨bvals css xs.length, ⟨by rw [List.length_map]; exact h1.1, fun b hb => h3 b (h1.2 b hb)⟩, fun j m hj => ?_⟩
  rw [List.getElem?_map] at hj
  obtain ⟨x, hx, rfl⟩ := Option.map_eq_some_iff.1 hj
  obtain ⟨hK, -⟩ := h2.2 j x hx
  obtain ⟨vb, vl, hcs, hb, -⟩ := item_open n hK
  have hlt := (List.getElem?_eq_some_iff.1 hx).1
  refine ⟨[vb], bytesT.mono (item_bytes n (hcs ▸ hK)) fun k hk => ⟨h4 k hk, fun he => h5 k (h1.2 k he) hk⟩, fun i u hi => ?_⟩
  cases i with
  | zero =>
    simp at hi; subst hi
    have : (bvals css xs.length)[j]? = some ((css j).getD 1 undef) := by
      unfold bvals
      rw [List.getElem?_map, List.getElem?_range hlt]; rfl
    show (bvals css xs.length)[j * 1 + 0]? = _
    rw [Nat.mul_one, Nat.add_zero, this, hcs]; rfl
  | succ i => simp at hi

theorem batch_zero {w w' : World} (er : Int) {L : List Ck} (H : HS w w' L) : RetBatch w (.returned (.tuple #[.agg zBatch, .int .i64 er])) w' .zero er := ⟨_, rfl, (H.take 0).nil bytesT 27⟩

set_option maxHeartbeats 4000000 in
theorem readBatch31_calls {b : Bytes} {v : Value} {w : World} (hx : Sl Ty.u8 w Any b v) :
    Calls Try.prog 31 #[v] w fun e w' => RetBatch w e w' (readBatchP b).1 (readBatchP b).2 := by
  obtain ⟨A, c, rfl⟩ := hx.form
  have H := HS.refl w
  refine calls_run Try.func31 (by kernel_rfl) ?_
  refine run_alloc (t := 65) (v := .agg zBatch) H (by kernel_rfl) (by kernel_rfl) fun b2 wc H => ?_
  refine run_call (f := 65) (args := #[.slice A b.length c]) (by kernel_rfl) (by kernel_rfl) pf65 (decode65_calls (hx.ext H.below)) fun e wc ⟨vb, vl, he, hH⟩ => ⟨_, he, ?_⟩
  replace H := H.join hH
  clear hH
  unfold readBatchP
  generalize decP b = q at H
  obtain ⟨x, er⟩ := q
  simp only at H ⊢
  obtain ⟨vb', vl', hcs, ho1, ho2⟩ := item_open 16 (H.kd 0 rfl)
  simp only [List.cons.injEq, and_true, true_and] at hcs
  obtain ⟨rfl, rfl⟩ := hcs
  obtain ⟨Ab, cb, rfl⟩ := ho1.form
  obtain ⟨Al, cl, rfl⟩ := ho2.form
  refine run_alloc (t := 102) (v := .agg zItem) H (by kernel_rfl) (by kernel_rfl) fun b4 wc H => ?_
  refine run_st (n := 0) (t := 102) (off := 0) (v := .agg #[.bool x.parts.1, .slice Ab x.parts.2.1.length cb, .slice Al x.parts.2.2.length cl]) (cs' := #[.bool x.parts.1, .slice Ab x.parts.2.1.length cb, .slice Al x.parts.2.2.length cl]) H rfl (by kernel_rfl) (by kernel_rfl) (by kernel_rfl) fun wc H => ?_
  refine run_ifN (p := er = 0) (by kernel_rfl) (by kernel_rfl) (fun hc => ?_) (fun hc => ?_)
  · refine run_st (n := 2) (t := 65) (off := 0) (v := .agg zBatch) (cs' := zBatch) H rfl (by kernel_rfl) (by kernel_rfl) (by kernel_rfl) fun wc H => ?_
    rw [if_pos hc]
    exact run_ret (v := .tuple #[.agg zBatch, .int .i64 er]) (by kernel_rfl) (by kernel_rfl) (resN Try.results31 (vs := [.agg zBatch, .int .i64 er]) (by simp) ⟨rv_cell (H.blk 2 rfl) (by kernel_rfl) (by kernel_rfl), rv_tmp (by kernel_rfl), trivial⟩) (batch_zero er H)
  rw [if_neg (by simpa using hc)]
  clear hc
  refine run_ld (n := 0) (t := 100) (off := 2) (v := .slice Al x.parts.2.2.length cl) H rfl (by kernel_rfl) (by kernel_rfl) (by kernel_rfl) ?_
  refine run_alloc (t := 100) (v := .slice none 0 0) H (by kernel_rfl) (by kernel_rfl) fun b6 wc H => ?_
  refine run_st (n := 0) (t := 100) (off := 0) (v := .slice Al x.parts.2.2.length cl) (cs' := #[.slice Al x.parts.2.2.length cl]) H rfl (by kernel_rfl) (by kernel_rfl) (by kernel_rfl) fun wc H => ?_
  refine run_ld (n := 1) (t := 4) (off := 0) (v := .bool x.parts.1) H rfl (by kernel_rfl) (by kernel_rfl) (by kernel_rfl) ?_
  have bad : ∀ {w' : World}, (x.parts.1 = false ∨ x.parts.2.2.length ≠ 3) → Ext w w' → RetBatch w (.returned (.tuple #[.agg zBatch, .int .i64 8])) w' (batchP x).1 (batchP x).2 := by
    intro w' h hE
    have : batchP x = (.zero, 8) := by unfold batchP; rw [if_pos h]
    rw [this]
    exact batch_zero (L := []) 8 ⟨hE, trivial⟩
  cases hil : x.parts.1
  · refine run_lit (.bool true) (by kernel_rfl) (by kernel_rfl) ?_
    refine run_cond (t := true) (by kernel_rfl) (by kernel_rfl) (fun _ => ?_) (fun h => by cases h)
    refine run_st (n := 3) (t := 65) (off := 0) (v := .agg zBatch) (cs' := zBatch) H rfl (by kernel_rfl) (by kernel_rfl) (by kernel_rfl) fun wc H => ?_
    exact run_ret (v := .tuple #[.agg zBatch, .int .i64 8]) (by kernel_rfl) (by kernel_rfl) (resN Try.results31 (vs := [.agg zBatch, .int .i64 8]) (by simp) ⟨rv_cell (H.blk 3 rfl) (by kernel_rfl) (by kernel_rfl), rv_tmp (by kernel_rfl), trivial⟩) (bad (.inl hil) H.below)
  refine run_lit (.bool false) (by kernel_rfl) (by kernel_rfl) ?_
  refine run_ld (n := 0) (t := 100) (off := 0) (v := .slice Al x.parts.2.2.length cl) H rfl (by kernel_rfl) (by kernel_rfl) (by kernel_rfl) ?_
  refine run_ifN (p := (x.parts.2.2.length : Int) = 3) (by kernel_rfl) (by kernel_rfl) (fun hc => ?_) (fun hc => ?_)
  · refine run_st (n := 3) (t := 65) (off := 0) (v := .agg zBatch) (cs' := zBatch) H rfl (by kernel_rfl) (by kernel_rfl) (by kernel_rfl) fun wc H => ?_
    exact run_ret (v := .tuple #[.agg zBatch, .int .i64 8]) (by kernel_rfl) (by kernel_rfl) (resN Try.results31 (vs := [.agg zBatch, .int .i64 8]) (by simp) ⟨rv_cell (H.blk 3 rfl) (by kernel_rfl) (by kernel_rfl), rv_tmp (by kernel_rfl), trivial⟩) (bad (.inr (by omega)) H.below)
  have h3 : x.parts.2.2.length = 3 := by omega
  clear bad hc
  have ho2 := item_list 16 (H.kd 2 rfl)
  have hcl := ho2.len
  obtain ⟨b0, o0, css, rfl, hknown⟩ := Sl.known ho2 (by omega)
  clear ho1 ho2
  have H := (H.pick 2 rfl).map (c' := Ck.rowK (itemT 15) b0 o0 x.parts.2.2 css) fun S hS => hknown S (item_list 16 hS)
  clear hknown
  unfold batchP
  rw [if_neg (by rw [hil, h3]; simp)]
  obtain ⟨il, bx, lx⟩ := x
  simp only [Item.parts_mk] at h3 hcl hil H ⊢
  obtain ⟨i1, i2, i3, rfl⟩ : ∃ i1 i2 i3, lx = [i1, i2, i3] := by
    match lx, h3 with
    | [a, b, c], _ => exact ⟨a, b, c, rfl⟩
  simp only
  refine run_alloc (t := 65) (v := .agg zBatch) H (by kernel_rfl) (by kernel_rfl) fun b8 wc H => ?_
  have H : HS w wc [Ck.blk b6 100 #[.slice (some ⟨b0, o0 + 0 * 3, none⟩) 3 cl], Ck.rowK (itemT 15) b0 o0 [i1, i2, i3] css, Ck.blk b8 65 #[.int .u64 0, .int .u64 0, .slice none 0 0], Ck.blk b2 65 zBatch] := ((((H.pick 4 rfl).pick 1 rfl).pick 2 rfl).pick 3 rfl).take 4
  have hcl3 : 3 ≤ cl := hcl.2.1
  have hclm : cl ≤ maxLen := hcl.2.2
  clear hcl
  obtain ⟨it, hit⟩ : ∃ it : Nat → Item, it = fun j => [i1, i2, i3].getD j itemZ := ⟨_, rfl⟩
  have hget : ∀ k, k < 3 → [i1, i2, i3][k]? = some (it k) := by
    intro k hk
    subst hit
    match k, hk with
    | 0, _ => rfl
    | 1, _ => rfl
    | 2, _ => rfl
  have e1 : i1 = it 0 := by rw [hit]; rfl
  have e2 : i2 = it 1 := by rw [hit]; rfl
  have e3 : i3 = it 2 := by rw [hit]; rfl
  have bad2 : ∀ {w' : World} {k : Nat}, k < 2 → (∀ j, j < k → (readNumP (it j)).2 = 0) → (readNumP (it k)).2 ≠ 0 → Ext w w' → RetBatch w (.returned (.tuple #[.agg zBatch, .int .i64 8])) w'
      (if (readNumP i1).2 ≠ 0 then (Batch.zero, (8 : Int)) else if (readNumP i2).2 ≠ 0 then (.zero, 8) else if i3.parts.1 = false ∨ 4096 < i3.parts.2.2.length then (.zero, 8) else if i3.parts.2.2.any (fun y => y.parts.1) then (.zero, 8) else (⟨(readNumP i1).1, (readNumP i2).1, i3.parts.2.2.map fun y => y.parts.2.1⟩, 0)).1
      (if (readNumP i1).2 ≠ 0 then (Batch.zero, (8 : Int)) else if (readNumP i2).2 ≠ 0 then (.zero, 8) else if i3.parts.1 = false ∨ 4096 < i3.parts.2.2.length then (.zero, 8) else if i3.parts.2.2.any (fun y => y.parts.1) then (.zero, 8) else (⟨(readNumP i1).1, (readNumP i2).1, i3.parts.2.2.map fun y => y.parts.2.1⟩, 0)).2 := by
    intro w' k hk hp hn hE
    rcases Nat.lt_or_ge k 1 with h | h
    · obtain rfl : k = 0 := by omega
      rw [← e1] at hn
      rw [if_pos hn]
      exact batch_zero (L := []) 8 ⟨hE, trivial⟩
    · obtain rfl : k = 1 := by omega
      have h0 := hp 0 (by omega)
      rw [← e1] at h0
      rw [← e2] at hn
      rw [if_neg (by simpa using h0), if_pos hn]
      exact batch_zero (L := []) 8 ⟨hE, trivial⟩
  refine run_loop (fun m a w' => ∃ k, m = 2 - k ∧ k ≤ 2 ∧ (∃ u, a = env 84 u [(2, .pointer (some ⟨b2, 0, none⟩)), (7, .func (.func 66) #[] #[.pointer (some ⟨b6, 0, none⟩)]), (8, .pointer (some ⟨b8, 0, none⟩)), (37, .agg #[.pointer (some ⟨b8, 0, none⟩), .pointer (some ⟨b8, 1, none⟩)]), (38, .int .i64 (k : Int))]) ∧
    HS w w' [Ck.blk b6 100 #[.slice (some ⟨b0, o0 + k * 3, none⟩) (3 - k) (cl - k)], Ck.rowK (itemT 15) b0 o0 [i1, i2, i3] css, Ck.blk b8 65 #[.int .u64 (if 0 < k then (readNumP (it 0)).1 else 0), .int .u64 (if 1 < k then (readNumP (it 1)).1 else 0), .slice none 0 0], Ck.blk b2 65 zBatch] ∧
    ∀ j, j < k → (readNumP (it j)).2 = 0) _ (by kernel_rfl) ⟨0, rfl, Nat.zero_le _, env_intro (by kernel_rfl) (by kernel_rfl) (by kernel_rfl), H, fun j hj => by omega⟩ ?_
  clear H
  rintro m a w' ⟨k, rfl, hk, ⟨u, rfl⟩, H, hnum⟩ next
  refine run_if (p := (k : Int) < 2) (by kernel_rfl) (by kernel_rfl) (fun hc => ?_) (fun hc => ?_)
  · have hlt : k < 2 := by omega
    refine run_lit (.pointer (some ⟨b8, k, none⟩)) (by kernel_rfl) (by
      rcases Nat.lt_or_ge k 1 with h | h
      · obtain rfl : k = 0 := by omega
        kernel_rfl
      · obtain rfl : k = 1 := by omega
        kernel_rfl) ?_
    obtain ⟨m2, hm2⟩ : ∃ m2, 3 - k = m2 + 1 := ⟨2 - k, by omega⟩
    rw [hm2] at H
    refine run_call (f := 66) (args := #[.pointer (some ⟨b6, 0, none⟩)]) (by kernel_rfl) (by kernel_rfl) pf66 (next66_calls H (hget k (by omega)) (by omega) (by omega)) fun e wc ⟨vb, vl, hcs, he, H2⟩ => ⟨_, he, ?_⟩
    replace H := H2
    clear H2
    obtain ⟨hK, -⟩ := H.rowK 1 rfl (hget k (by omega))
    rw [hcs] at hK
    obtain ⟨vb', vl', hcs', hb, hl⟩ := item_open 15 hK
    simp only [List.cons.injEq, and_true, true_and] at hcs'
    obtain ⟨rfl, rfl⟩ := hcs'
    refine run_call (f := 67) (args := #[.agg #[.bool (it k).parts.1, vb, vl]]) (by kernel_rfl) (by kernel_rfl) pf67 (readNum67_calls (x := it k) hb hl) fun e wc ⟨he, hE⟩ => ⟨_, he, ?_⟩
    replace H := H.ext hE
    have hst : stv Try.prog 24 #[.int .u64 (if 0 < k then (readNumP (it 0)).1 else 0), .int .u64 (if 1 < k then (readNumP (it 1)).1 else 0), .slice none 0 0] k (.int .u64 (readNumP (it k)).1) =
        some #[.int .u64 (if 0 < k + 1 then (readNumP (it 0)).1 else 0), .int .u64 (if 1 < k + 1 then (readNumP (it 1)).1 else 0), .slice none 0 0] := by
      rcases Nat.lt_or_ge k 1 with h | h
      · obtain rfl : k = 0 := by omega
        kernel_rfl
      · obtain rfl : k = 1 := by omega
        kernel_rfl
    refine run_st (n := 2) (t := 24) (off := k) (v := .int .u64 (readNumP (it k)).1) (cs' := #[.int .u64 (if 0 < k + 1 then (readNumP (it 0)).1 else 0), .int .u64 (if 1 < k + 1 then (readNumP (it 1)).1 else 0), .slice none 0 0]) H rfl (by kernel_rfl) (by kernel_rfl) hst fun wc H => ?_
    refine run_ifN (p := (readNumP (it k)).2 = 0) (by kernel_rfl) (by kernel_rfl) (fun hc => ?_) (fun hc => ?_)
    · refine run_st (n := 3) (t := 65) (off := 0) (v := .agg zBatch) (cs' := zBatch) H rfl (by kernel_rfl) (by kernel_rfl) (by kernel_rfl) fun wc H => ?_
      exact run_ret (v := .tuple #[.agg zBatch, .int .i64 8]) (by kernel_rfl) (by kernel_rfl) (resN Try.results31 (vs := [.agg zBatch, .int .i64 8]) (by simp) ⟨rv_cell (H.blk 3 rfl) (by kernel_rfl) (by kernel_rfl), rv_tmp (by kernel_rfl), trivial⟩) (bad2 hlt hnum hc H.below)
    refine run_at (by kernel_rfl) (next (2 - (k + 1)) _ _ (by omega) ⟨k + 1, rfl, by omega, ?_, ?_, fun j hj => ?_⟩)
    · rw [← wrap_succ (by omega)]
      exact env_intro (by kernel_rfl) (by kernel_rfl) (by kernel_rfl)
    · rw [if_neg (show ¬ (cl - k = 1) by omega)] at H
      have e1 : m2 = 3 - (k + 1) := by omega
      have e2 : cl - k - 1 = cl - (k + 1) := by omega
      rw [e1, e2] at H
      exact H
    · rcases Nat.lt_or_ge j k with h | h
      · exact hnum j h
      · have : j = k := by omega
        rw [this]; exact hc
  · obtain rfl : k = 2 := by omega
    clear next hc
    have hn0 := hnum 0 (by omega)
    have hn1 := hnum 1 (by omega)
    rw [← e1] at hn0
    rw [← e2] at hn1
    rw [if_neg (by simpa using hn0), if_neg (by simpa using hn1)]
    clear bad2 hnum
    have H : HS w w' [Ck.blk b6 100 #[.slice (some ⟨b0, o0 + 2 * 3, none⟩) (0 + 1) (cl - 2)], Ck.rowK (itemT 15) b0 o0 [i1, i2, i3] css, Ck.blk b8 65 #[.int .u64 (readNumP (it 0)).1, .int .u64 (readNumP (it 1)).1, .slice none 0 0], Ck.blk b2 65 zBatch] := H
    refine run_call (f := 66) (args := #[.pointer (some ⟨b6, 0, none⟩)]) (by kernel_rfl) (by kernel_rfl) pf66 (next66_calls H (hget 2 (by omega)) (by omega) (by omega)) fun e wc ⟨vb, vl, hcs, he, H2⟩ => ⟨_, he, ?_⟩
    replace H := H2
    clear H2
    rw [← e3] at hcs
    rw [← e3]
    obtain ⟨hK, -⟩ := H.rowK 1 rfl (j := 2) (x := i3) rfl
    rw [hcs] at hK
    obtain ⟨vb', vl', hcs', hb, hl⟩ := item_open 15 hK
    simp only [List.cons.injEq, and_true, true_and] at hcs'
    obtain ⟨rfl, rfl⟩ := hcs'
    obtain ⟨Ab3, cb3, rfl⟩ := hb.form
    obtain ⟨Al3, cl3, rfl⟩ := hl.form
    clear hb hl hK
    refine run_alloc (t := 102) (v := .agg zItem) H (by kernel_rfl) (by kernel_rfl) fun b11 wc H => ?_
    refine run_st (n := 0) (t := 102) (off := 0) (v := .agg #[.bool i3.parts.1, .slice Ab3 i3.parts.2.1.length cb3, .slice Al3 i3.parts.2.2.length cl3]) (cs' := #[.bool i3.parts.1, .slice Ab3 i3.parts.2.1.length cb3, .slice Al3 i3.parts.2.2.length cl3]) H rfl (by kernel_rfl) (by kernel_rfl) (by kernel_rfl) fun wc H => ?_
    refine run_ld (n := 0) (t := 4) (off := 0) (v := .bool i3.parts.1) H rfl (by kernel_rfl) (by kernel_rfl) (by kernel_rfl) ?_
    cases hil3 : i3.parts.1
    · refine run_lit (.bool true) (by kernel_rfl) (by kernel_rfl) ?_
      refine run_cond (t := true) (by kernel_rfl) (by kernel_rfl) (fun _ => ?_) (fun h => by cases h)
      refine run_st (n := 4) (t := 65) (off := 0) (v := .agg zBatch) (cs' := zBatch) H rfl (by kernel_rfl) (by kernel_rfl) (by kernel_rfl) fun wc H => ?_
      rw [if_pos (.inl rfl)]
      exact run_ret (v := .tuple #[.agg zBatch, .int .i64 8]) (by kernel_rfl) (by kernel_rfl) (resN Try.results31 (vs := [.agg zBatch, .int .i64 8]) (by simp) ⟨rv_cell (H.blk 4 rfl) (by kernel_rfl) (by kernel_rfl), rv_tmp (by kernel_rfl), trivial⟩) (batch_zero (L := []) 8 ⟨H.below, trivial⟩)
    refine run_lit (.bool false) (by kernel_rfl) (by kernel_rfl) ?_
    refine run_ld (n := 0) (t := 100) (off := 2) (v := .slice Al3 i3.parts.2.2.length cl3) H rfl (by kernel_rfl) (by kernel_rfl) (by kernel_rfl) ?_
    refine run_if (p := (i3.parts.2.2.length : Int) > 4096) (by kernel_rfl) (by kernel_rfl) (fun hc => ?_) (fun hc => ?_)
    · refine run_st (n := 4) (t := 65) (off := 0) (v := .agg zBatch) (cs' := zBatch) H rfl (by kernel_rfl) (by kernel_rfl) (by kernel_rfl) fun wc H => ?_
      rw [if_pos (.inr (by omega))]
      exact run_ret (v := .tuple #[.agg zBatch, .int .i64 8]) (by kernel_rfl) (by kernel_rfl) (resN Try.results31 (vs := [.agg zBatch, .int .i64 8]) (by simp) ⟨rv_cell (H.blk 4 rfl) (by kernel_rfl) (by kernel_rfl), rv_tmp (by kernel_rfl), trivial⟩) (batch_zero (L := []) 8 ⟨H.below, trivial⟩)
    rw [if_neg (by simp; omega)]
    refine run_ld (n := 0) (t := 100) (off := 2) (v := .slice Al3 i3.parts.2.2.length cl3) H rfl (by kernel_rfl) (by kernel_rfl) (by kernel_rfl) ?_
    rename_i hlen3
    obtain ⟨b', o', css3, hAl, hto⟩ : ∃ b' o' css3, (0 < i3.parts.2.2.length → Al3 = some ⟨b', o', none⟩) ∧ ∀ S, (Ck.rowK (itemT 15) b0 o0 [i1, i2, i3] css).h wc S → (Ck.rowK (itemT 14) b' o' i3.parts.2.2 css3).h wc S := by
      by_cases hp : 0 < i3.parts.2.2.length
      · obtain ⟨hK, -⟩ := H.rowK 2 rfl (j := 2) (x := i3) rfl
        rw [hcs] at hK
        obtain ⟨b', o', css3, rfl, hkn⟩ := Sl.known (item_list 15 hK) hp
        refine ⟨b', o', css3, fun _ => rfl, fun S hS => hkn S ?_⟩
        have := (hS.2 2 i3 rfl).1
        rw [hcs] at this
        exact item_list 15 this
      · have hn : i3.parts.2.2 = [] := List.length_eq_zero_iff.1 (by omega)
        refine ⟨b0, o0, fun _ => [], fun h => absurd h hp, fun S hS => ⟨fun h => absurd h hp, fun j x hj => ?_⟩⟩
        rw [hn] at hj
        simp at hj
    have H := row_nil ((((((H.pick 4 rfl).pick 4 rfl).pick 4 rfl).map (c' := Ck.rowK (itemT 14) b' o' i3.parts.2.2 css3) hto)).take 3) 27 1
    clear hto
    have hany : ∀ {w' : World} {i : Nat} {y : Item}, i3.parts.2.2[i]? = some y → y.parts.1 = true → Ext w w' → RetBatch w (.returned (.tuple #[.agg zBatch, .int .i64 8])) w'
        (if (i3.parts.2.2.any fun y => y.parts.1) = true then (Batch.zero, (8 : Int)) else (⟨(readNumP i1).1, (readNumP i2).1, i3.parts.2.2.map fun y => y.parts.2.1⟩, 0)).1 (if (i3.parts.2.2.any fun y => y.parts.1) = true then (Batch.zero, (8 : Int)) else (⟨(readNumP i1).1, (readNumP i2).1, i3.parts.2.2.map fun y => y.parts.2.1⟩, 0)).2 := by
      intro w' i y hy hil hE
      rw [if_pos (List.any_eq_true.2 ⟨y, List.mem_of_getElem? hy, hil⟩)]
      exact batch_zero (L := []) 8 ⟨hE, trivial⟩
    refine run_loop (fun m a w' => ∃ i, m = i3.parts.2.2.length - i ∧ i ≤ i3.parts.2.2.length ∧ (∃ u, a = env 84 u [(2, .pointer (some ⟨b2, 0, none⟩)), (8, .pointer (some ⟨b8, 0, none⟩)), (66, .slice Al3 i3.parts.2.2.length cl3), (67, .int .i64 (i3.parts.2.2.length : Int)), (68, .int .i64 (i : Int))]) ∧
      (∃ vm, HS w w' [Ck.row 27 1 vm i (bvals css3 i), Ck.rowK (itemT 14) b' o' i3.parts.2.2 css3, Ck.blk b8 65 #[.int .u64 (readNumP (it 0)).1, .int .u64 (readNumP (it 1)).1, vm], Ck.blk b2 65 zBatch]) ∧ ∀ j y, j < i → i3.parts.2.2[j]? = some y → y.parts.1 = false) _ (by kernel_rfl) ⟨0, rfl, Nat.zero_le _, env_intro (by kernel_rfl) (by kernel_rfl) (by kernel_rfl), ⟨_, H⟩, fun j y hj => by omega⟩ ?_
    clear H
    rintro m a w' ⟨i, rfl, hi, ⟨u, rfl⟩, ⟨vm, H⟩, hno⟩ next
    obtain ⟨Am, cm, rfl⟩ := row_form H
    refine run_if (p := (i : Int) < (i3.parts.2.2.length : Int)) (by kernel_rfl) (by kernel_rfl) (fun hc => ?_) (fun hc => ?_)
    · have hlt : i < i3.parts.2.2.length := by omega
      have hget := List.getElem?_eq_getElem hlt
      generalize i3.parts.2.2[i] = y at hget
      have hAl := hAl (by omega)
      have Hn := H
      subst hAl
      have H := Hn
      clear Hn
      obtain ⟨hK, hcell⟩ := H.rowK 1 rfl hget
      obtain ⟨vb, vl, hcs3, hb, hl⟩ := item_open 14 hK
      rw [hcs3] at hcell
      obtain ⟨Ab, cb, rfl⟩ := hb.form
      obtain ⟨Al, cl', rfl⟩ := hl.form
      clear hb hl hK
      refine run_val (v := .pointer (some ⟨b', o' + i * 3, none⟩)) (by kernel_rfl) (op_indexN (t := 100) (e := 102) (n := i3.parts.2.2.length) (c := cl3) (k := .i64) (by kernel_rfl) (by kernel_rfl) (by kernel_rfl) (hlt)) ?_
      refine run_val (v := .agg #[.bool y.parts.1, .slice Ab y.parts.2.1.length cb, .slice Al y.parts.2.2.length cl']) (by kernel_rfl) (op_load (t := 102) (b := b') (off := o' + i * 3) (by kernel_rfl) (run_loadVar_agg (cs := [.bool y.parts.1, .slice Ab y.parts.2.1.length cb, .slice Al y.parts.2.2.length cl']) (by kernel_rfl) (by kernel_rfl) hcell)) ?_
      refine run_alloc (t := 102) (v := .agg zItem) H (by kernel_rfl) (by kernel_rfl) fun b13 wc H => ?_
      refine run_st (n := 0) (t := 102) (off := 0) (v := .agg #[.bool y.parts.1, .slice Ab y.parts.2.1.length cb, .slice Al y.parts.2.2.length cl']) (cs' := #[.bool y.parts.1, .slice Ab y.parts.2.1.length cb, .slice Al y.parts.2.2.length cl']) H rfl (by kernel_rfl) (by kernel_rfl) (by kernel_rfl) fun wc H => ?_
      refine run_ld (n := 0) (t := 4) (off := 0) (v := .bool y.parts.1) H rfl (by kernel_rfl) (by kernel_rfl) (by kernel_rfl) ?_
      refine run_cond (t := y.parts.1) (by kernel_rfl) (by kernel_rfl) (fun hy => ?_) (fun hy => ?_)
      · refine run_st (n := 4) (t := 65) (off := 0) (v := .agg zBatch) (cs' := zBatch) H rfl (by kernel_rfl) (by kernel_rfl) (by kernel_rfl) fun wc H => ?_
        exact run_ret (v := .tuple #[.agg zBatch, .int .i64 8]) (by kernel_rfl) (by kernel_rfl) (resN Try.results31 (vs := [.agg zBatch, .int .i64 8]) (by simp) ⟨rv_cell (H.blk 4 rfl) (by kernel_rfl) (by kernel_rfl), rv_tmp (by kernel_rfl), trivial⟩) (hany hget hy H.below)
      refine run_ld (n := 3) (t := 23) (off := 2) (v := .slice Am i cm) H rfl (by kernel_rfl) (by kernel_rfl) (by kernel_rfl) ?_
      refine run_ld (n := 0) (t := 27) (off := 1) (v := .slice Ab y.parts.2.1.length cb) H rfl (by kernel_rfl) (by kernel_rfl) (by kernel_rfl) ?_
      refine run_bs (e := 27) (len := 1) (cells := #[.slice Ab y.parts.2.1.length cb]) H (by kernel_rfl) (by kernel_rfl) fun b9 wc H => ?_
      have hbb := H.blk 0 rfl
      obtain ⟨vm2, w3, hra, H, -, -⟩ := (H.pick 2 rfl).app_row (b := b9) (o := 0) (m := 1) (c := 1) (news := [.slice Ab y.parts.2.1.length cb]) row23 rfl (fun j u hj => by rw [Nat.zero_add, hbb.cell]; simpa using hj) (fun u hu => by rw [List.mem_singleton] at hu; subst hu; rfl) (by omega)
      obtain ⟨Am2, cm2, rfl⟩ := row_form H
      refine run_val (by kernel_rfl) (op_append (s := .slice Am i cm) (by kernel_rfl) hra) ?_
      refine run_st (n := 4) (t := 23) (off := 2) (v := .slice Am2 (i + 1) cm2) (cs' := #[.int .u64 (readNumP (it 0)).1, .int .u64 (readNumP (it 1)).1, .slice Am2 (i + 1) cm2]) H rfl (by kernel_rfl) (by kernel_rfl) (by kernel_rfl) fun wc H => ?_
      have hbv : bvals css3 (i + 1) = bvals css3 i ++ [.slice Ab y.parts.2.1.length cb] := by
        unfold bvals
        rw [List.range_succ, List.map_append, List.map_singleton, hcs3]; rfl
      refine run_at (by kernel_rfl) (next (i3.parts.2.2.length - (i + 1)) _ _ (by omega) ⟨i + 1, rfl, by omega, ?_, ⟨.slice Am2 (i + 1) cm2, ?_⟩, fun j z hj hz => ?_⟩)
      · have hw := wrap_succ (n := i) (by omega)
        rw [← hw]
        exact env_intro (by kernel_rfl) (by kernel_rfl) (by kernel_rfl)
      · rw [hbv]
        exact (((H.pick 1 rfl).drop).pick 1 rfl).drop
      · rcases Nat.lt_or_ge j i with h | h
        · exact hno j z h hz
        · have : j = i := by omega
          rw [this, hget] at hz
          injection hz with hz
          subst hz
          exact hy
    · obtain rfl : i = i3.parts.2.2.length := by omega
      have hnone : ¬ (i3.parts.2.2.any fun y => y.parts.1) = true := by
        intro h
        obtain ⟨y, hy, hy2⟩ := List.any_eq_true.1 h
        obtain ⟨j, hj, hjy⟩ := List.mem_iff_getElem.1 hy
        have := hno j y hj (by rw [List.getElem?_eq_getElem hj, hjy])
        rw [this] at hy2
        cases hy2
      rw [if_neg hnone]
      refine run_ld (n := 2) (t := 65) (off := 0) (v := .agg #[.int .u64 (readNumP (it 0)).1, .int .u64 (readNumP (it 1)).1, .slice Am i3.parts.2.2.length cm]) H rfl (by kernel_rfl) (by kernel_rfl) (by kernel_rfl) ?_
      refine run_st (n := 3) (t := 65) (off := 0) (v := .agg #[.int .u64 (readNumP (it 0)).1, .int .u64 (readNumP (it 1)).1, .slice Am i3.parts.2.2.length cm]) (cs' := #[.int .u64 (readNumP (it 0)).1, .int .u64 (readNumP (it 1)).1, .slice Am i3.parts.2.2.length cm]) H rfl (by kernel_rfl) (by kernel_rfl) (by kernel_rfl) fun wc H => ?_
      rw [e1, e2]
      exact run_ret (v := .tuple #[.agg #[.int .u64 (readNumP (it 0)).1, .int .u64 (readNumP (it 1)).1, .slice Am i3.parts.2.2.length cm], .int .i64 0]) (by kernel_rfl) (by kernel_rfl) (resN Try.results31 (vs := [.agg #[.int .u64 (readNumP (it 0)).1, .int .u64 (readNumP (it 1)).1, .slice Am i3.parts.2.2.length cm], .int .i64 0]) (by simp) ⟨rv_cell (H.blk 3 rfl) (by kernel_rfl) (by kernel_rfl), rv_tmp (by kernel_rfl), trivial⟩) ⟨_, rfl, (row_msgs H).take 1⟩
end Go.Proofs.Ythmajhdemooecaa

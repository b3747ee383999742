/- The walk of an item's reading. -/
import Derived.Test.YthmajhdemooecaaF9
namespace Go.Proofs.Ythmajhdemooecaa
open Go.PM Go.RowKit
set_option linter.unusedVariables false
set_option linter.unusedVariables false
set_option linter.unusedSimpArgs false
set_option linter.unnecessarySimpa false
attribute [local irreducible] adv advD advF fuel

/-- An item: is it a list, its bytes, its list. -/
inductive Item where
  | mk (isList : Bool) (bytes : Bytes) (list : List Item)
def Item.parts : Item → Bool × Bytes × List Item | .mk a b c => (a, b, c)
def noT : Ty Item where
  sz := 3
  K := fun _ _ _ _ => False
  len := fun h => h.elim
  one := fun h => h.elim
  mono := fun h _ => h
  loc := fun h _ => h
  trim := fun h => h
/-- Items with so many levels of lists. -/
def itemT : Nat → Ty Item
  | 0 => Ty.iso (Ty.pair Ty.bool (Ty.pair bytesT (Ty.slice noT))) Item.parts
  | n + 1 => Ty.iso (Ty.pair Ty.bool (Ty.pair bytesT (Ty.slice (itemT n)))) Item.parts
theorem itemT_sz (n : Nat) : (itemT n).sz = 3 := by cases n <;> rfl

/-! what is read -/
def itemsP (it : Bytes → Except Int (Item × Bytes)) : Nat → Bytes → Except Int (List Item)
  | 0, _ => .ok []
  | n + 1, b => if b.length = 0 then .ok [] else
    match it b with
    | .error e => .error e
    | .ok (y, r) => match itemsP it n r with | .error e => .error e | .ok l => .ok (y :: l)
def itemQ (lists : Nat → Bytes → Except Int (Item × Bytes)) : Bytes → Except Int (Item × Bytes)
  | [] => .error 7
  | c :: rest =>
    if c.toNat < 128 then .ok (.mk false [c] [], rest)
    else if c.toNat < 192 then
      match bodyP (c.toNat - 128) rest with
      | .error e => .error e
      | .ok (i, l) => if i.length = 1 ∧ (i.headD 0).toNat < 128 then .error 8 else .ok (.mk false i [], l)
    else lists (c.toNat - 192) rest
def listP (it : Bytes → Except Int (Item × Bytes)) (k : Nat) (rest : Bytes) : Except Int (Item × Bytes) :=
  match bodyP k rest with
  | .error e => .error e
  | .ok (inner, l) => match itemsP it inner.length inner with | .error e => .error e | .ok ys => .ok (.mk true [] ys, l)
def itemP : Nat → Bytes → Except Int (Item × Bytes)
  | 0 => itemQ fun _ _ => .error 8
  | n + 1 => itemQ (listP (itemP n))

theorem cutP_len {b : Bytes} {n : Int} {r : Bytes × Bytes} (h : cutP b n = .ok r) : r.1.length ≤ b.length ∧ r.2.length ≤ b.length := by
  unfold cutP at h
  split at h
  · injection h with h
    subst h
    exact ⟨by rw [List.length_take]; omega, by rw [List.length_drop]; omega⟩
  · cases h

theorem bodyP_len {k : Nat} {b : Bytes} {r : Bytes × Bytes} (h : bodyP k b = .ok r) : r.1.length ≤ b.length ∧ r.2.length ≤ b.length := by
  unfold bodyP at h
  split at h
  · cases hc : cutP b ((k : Int) - 55) with
    | error e => rw [hc] at h; cases h
    | ok q =>
      obtain ⟨l, q⟩ := q
      rw [hc] at h
      simp only at h
      have h1 := cutP_len hc
      split at h
      · have h2 := cutP_len h
        exact ⟨Nat.le_trans h2.1 h1.2, Nat.le_trans h2.2 h1.2⟩
      · cases h
  · exact cutP_len h

theorem itemQ_len {lists : Nat → Bytes → Except Int (Item × Bytes)} (hl : ∀ k b r, lists k b = .ok r → r.2.length ≤ b.length) {b : Bytes} {r : Item × Bytes} (h : itemQ lists b = .ok r) : r.2.length < b.length := by
  cases b with
  | nil => cases h
  | cons c rest =>
    simp only [itemQ] at h
    split at h
    · injection h with h; subst h; simp
    · split at h
      · cases hc : bodyP (c.toNat - 128) rest with
        | error e => rw [hc] at h; cases h
        | ok q =>
          obtain ⟨i, l⟩ := q
          rw [hc] at h
          simp only at h
          have := (bodyP_len hc).2
          split at h
          · cases h
          · injection h with h; subst h
            simp only [List.length_cons]
            exact Nat.lt_succ_of_le this
      · have := hl _ _ _ h
        simp only [List.length_cons]; omega

theorem itemP_len : ∀ (n : Nat) {b : Bytes} {r : Item × Bytes}, itemP n b = .ok r → r.2.length < b.length
  | 0, b, r, h => itemQ_len (fun k b r h => by cases h) h
  | n + 1, b, r, h => itemQ_len (fun k b r h => by
      unfold listP at h
      cases hc : bodyP k b with
      | error e => rw [hc] at h; cases h
      | ok q =>
        obtain ⟨i, l⟩ := q
        rw [hc] at h
        simp only at h
        split at h
        · cases h
        · injection h with h; subst h
          exact (bodyP_len hc).2) h

theorem itemsP_fuel {it : Bytes → Except Int (Item × Bytes)} (hit : ∀ b r, it b = .ok r → r.2.length < b.length) : ∀ (n m : Nat) (b : Bytes), b.length ≤ n → b.length ≤ m → itemsP it n b = itemsP it m b
  | 0, 0, b, _, _ => rfl
  | 0, m + 1, b, h, _ => by
    unfold itemsP; rw [if_pos (by omega)]
  | n + 1, 0, b, _, h => by
    unfold itemsP; rw [if_pos (by omega)]
  | n + 1, m + 1, b, h, h' => by
    unfold itemsP
    split
    · rfl
    · cases hb : it b with
      | error e => rfl
      | ok q =>
        obtain ⟨y, r⟩ := q
        have := hit b _ hb
        simp only at this ⊢
        rw [itemsP_fuel hit n m r (by omega) (by omega)]

theorem pf97 : plainFn Try.prog 97 = true := by kernel_rfl
theorem pf108 : plainFn Try.prog 108 = true := by kernel_rfl
theorem row100 (n : Nat) : chkRow Try.prog 100 102 (itemT n).sz = true := by rw [itemT_sz]; kernel_rfl

theorem clone108_calls {xs : List UInt8} {v : Value} {w : World} (hx : Sl Ty.u8 w Any xs v) (hn : xs.length ≤ 137438953472) :
    Calls Try.prog 108 #[v] w fun e w' => ∃ v', e = .returned v' ∧ HS w w' [Ck.own Ty.u8 5 v' xs] := by
  obtain ⟨A, c, rfl⟩ := hx.form
  refine calls_run Try.func108 (by kernel_rfl) ?_
  cases A with
  | none =>
    obtain ⟨A', c', h1, h2, h3, h4, h5⟩ := hx
    injection h1 with h6 h7 h8
    subst h6 h8
    have hc : c = 0 := h4 rfl
    have : xs = [] := List.length_eq_zero_iff.1 (by omega)
    subst this hc
    refine run_cond (t := true) (by kernel_rfl) (by kernel_rfl) (fun _ => ?_) (fun h => by cases h)
    exact run_ret (v := .slice none 0 0) (by kernel_rfl) (by kernel_rfl) (by kernel_rfl) ⟨_, rfl, (HS.refl w).nil _ _⟩
  | some ad =>
    refine run_cond (t := false) (by kernel_rfl) (by kernel_rfl) (fun h => by cases h) (fun _ => ?_)
    refine run_val (v := .slice (some ⟨w.heap.size, 0, none⟩) 0 0) (by kernel_rfl) (op_buildSlice (e := 5) (len := 0) (cells := #[]) (by kernel_rfl)) ?_
    have H := (HS.refl w).made0 Ty.u8 5
    obtain ⟨v', w', hr, H⟩ := H.app_all (Ty.flat_scalar _ _ _) row27 (hx.ext H.below) (by simpa using hn)
    refine run_val (by kernel_rfl) (op_append (s := .slice (some ⟨w.heap.size, 0, none⟩) 0 0) (by kernel_rfl) hr) ?_
    exact run_ret (v := v') (by kernel_rfl) (by kernel_rfl) (by kernel_rfl) ⟨_, rfl, H⟩

def listT : Nat → Ty Item | 0 => noT | n + 1 => itemT n
theorem item_mk (n : Nat) {w : World} {S : Nat → Prop} {il : Bool} {i : Bytes} {ys : List Item} {vb vl : Value} (h1 : (Ck.own Ty.u8 5 vb i).h w S) (h2 : Sl (listT n) w S ys vl) : (itemT n).K w S (.mk il i ys) [.bool il, vb, vl] := by
  cases n <;> exact ⟨[.bool il], [vb, vl], rfl, ⟨rfl, trivial⟩, [vb], [vl], rfl, bytesT_mk h1, ⟨vl, rfl, h2⟩⟩
theorem own_nilS {w : World} {S : Nat → Prop} : (Ck.own Ty.u8 5 (.slice none 0 0) ([] : Bytes)).h w S :=
  ⟨[], ⟨World.ownsRow_nil _ _ _ _, fun b hb => by simp [Value.ownBlock] at hb⟩, fun j x hj => by simp at hj⟩
theorem blk_own1 {w : World} {S : Nat → Prop} {b : Nat} {x : UInt8} (h : Blk w b 5 #[.int .u8 (x.toNat : Int)]) (hS : S b) : (Ck.own Ty.u8 5 (.slice (some ⟨b, 0, none⟩) 1 1) [x]).h w S := by
  refine ⟨[.int .u8 (x.toNat : Int)], ⟨⟨rfl, .inr ⟨b, 1, _, rfl, Nat.zero_le _, h, Nat.le_refl _, by decide, rfl, rfl⟩⟩, fun k hk => by injection hk with hk; subst hk; exact hS⟩, fun j y hj => ?_⟩
  cases j with
  | zero => simp at hj; subst hj; exact ⟨_, ⟨rfl, trivial⟩, fun i v hi => by cases i <;> simp at hi; subst hi; rfl⟩
  | succ j => simp at hj
theorem item_bytes (n : Nat) {w : World} {S : Nat → Prop} {x : Item} {a vb vl : Value} (h : (itemT n).K w S x [a, vb, vl]) : bytesT.K w S x.parts.2.1 [vb] := by
  cases n
  · obtain ⟨c1, c2, h0, ⟨rfl, -⟩, c3, c4, rfl, ⟨vb', rfl, h1⟩, ⟨vl', rfl, h2⟩⟩ := h
    simp only [List.singleton_append, List.cons.injEq, and_true] at h0
    obtain ⟨_, rfl, _⟩ := h0
    exact ⟨_, rfl, h1⟩
  · obtain ⟨c1, c2, h0, ⟨rfl, -⟩, c3, c4, rfl, ⟨vb', rfl, h1⟩, ⟨vl', rfl, h2⟩⟩ := h
    simp only [List.singleton_append, List.cons.injEq, and_true] at h0
    obtain ⟨_, rfl, _⟩ := h0
    exact ⟨_, rfl, h1⟩
theorem item_open (n : Nat) {w : World} {S : Nat → Prop} {x : Item} {c : List Value} (h : (itemT n).K w S x c) : ∃ vb vl, c = [.bool x.parts.1, vb, vl] ∧ Sl Ty.u8 w S x.parts.2.1 vb ∧ Sl (listT n) w S x.parts.2.2 vl := by
  cases n
  · obtain ⟨c1, c2, rfl, ⟨rfl, -⟩, c3, c4, rfl, ⟨vb, rfl, h1, -⟩, ⟨vl, rfl, h2⟩⟩ := h
    exact ⟨vb, vl, rfl, h1, h2⟩
  · obtain ⟨c1, c2, rfl, ⟨rfl, -⟩, c3, c4, rfl, ⟨vb, rfl, h1, -⟩, ⟨vl, rfl, h2⟩⟩ := h
    exact ⟨vb, vl, rfl, h1, h2⟩

def listsOf : Nat → Nat → Bytes → Except Int (Item × Bytes)
  | 0 => fun _ _ => .error 8
  | n + 1 => listP (itemP n)
theorem itemP_eq (n : Nat) : itemP n = itemQ (listsOf n) := by cases n <;> rfl

def ItemC (lv : Nat) : Prop := ∀ {b : Bytes} {v : Value} {w W : World}, Sl Ty.u8 W Any b v → Ext W w → small b.length →
  Calls Try.prog 97 #[v, .int .i64 (lv : Int)] w fun e w' => Out (itemP lv b) w (fun r e w' => ∃ vb vl v2, e = .returned (.tuple #[.agg #[.bool r.1.parts.1, vb, vl], v2]) ∧ HS w w' [Ck.dat (itemT lv) [.bool r.1.parts.1, vb, vl] r.1] ∧ Sl Ty.u8 W Any r.2 v2) e w'

set_option maxRecDepth 100000 in
set_option maxHeartbeats 4000000 in
theorem item97_step (lv : Nat) (hlv : lv ≤ 16) (ih : ∀ n, lv = n + 1 → ItemC n) : ItemC lv := by
  intro b v w W hx hW hs
  obtain ⟨A, c, rfl⟩ := hx.form
  have hcl := hx.len
  have H := HS.refl w
  refine calls_run Try.func97 (by kernel_rfl) ?_
  refine run_alloc (t := 102) (v := .agg #[.bool false, .slice none 0 0, .slice none 0 0]) H (by kernel_rfl) (by kernel_rfl) fun b4 wc H => ?_
  refine run_callP (f := 98) (args := #[.bool (decide ((b.length : Int) > 0)), .int .i64 7]) (by kernel_rfl) (by kernel_rfl) pf98 (need98_calls _ 7 _) fun e wc he => ?_
  rw [itemP_eq]
  by_cases hb : b = []
  · subst hb
    rw [if_neg (by decide)] at he
    exact .inr ⟨_, he.1, (by kernel_rfl), rfl, H.below.trans he.2⟩
  obtain ⟨c0, rest, hbe⟩ := List.exists_cons_of_ne_nil hb
  have hpos : 0 < b.length := by rw [hbe]; simp
  rw [if_pos (decide_eq_true (by omega))] at he
  obtain ⟨he, hw⟩ := he
  subst hw
  refine .inl ⟨_, he, ?_⟩
  have hget : b[0]? = some c0 := by rw [hbe]; rfl
  obtain ⟨bb, o, cs, rfl, ⟨hcs, -⟩, hcell⟩ := (hx.ext (hW.trans H.below)).get hget
  subst hcs
  refine run_val (v := .pointer (some ⟨bb, o + 0 * 1, none⟩)) (by kernel_rfl) (op_indexN (t := 27) (e := 5) (n := b.length) (c := c) (k := .i64) (by kernel_rfl) (by kernel_rfl) (by kernel_rfl) (hpos)) ?_
  refine run_val (v := .int .u8 (c0.toNat : Int)) (by kernel_rfl) (op_load (t := 5) (b := bb) (off := o + 0 * 1) (by kernel_rfl) (run_loadVar_one (by kernel_rfl) (hcell 0 _ rfl))) ?_
  obtain ⟨A2, hA2⟩ : ∃ A2, A2 = if b.length = 1 then (some ⟨bb, o, none⟩ : Option Addr) else (some ⟨bb, o, none⟩ : Option Addr).map (·.add (1 * 1)) := ⟨_, rfl⟩
  refine run_val (v := .slice A2 (b.length - 1) (b.length - 1)) (by kernel_rfl) (op_slice3' (t := 27) (e := 5) (sz := 1) (n := b.length) (c := c) (A := some ⟨bb, o, none⟩) (lo := some (.int .i64 1)) (k := .i64) (k' := .i64) (l := 1) (h := b.length) (m := b.length) (ih := (b.length : Int)) (im := (b.length : Int)) (by kernel_rfl) (by kernel_rfl) (by kernel_rfl)
      (.inr ⟨_, _, rfl, rfl⟩) rfl rfl (by omega) (by omega) (by omega) hA2 rfl rfl) ?_
  have hrest := hx.cut' (l := 1) (h := b.length) (m := b.length) (n' := b.length - 1) (m' := b.length - 1) (by omega) (by omega) (by omega) (by omega) hA2 rfl rfl
  have hre : (b.drop 1).take (b.length - 1) = rest := by
    rw [hbe]; simp
  rw [hre] at hrest
  have hrl : b.length - 1 = rest.length := by rw [hbe]; simp
  rw [hrl] at hrest
  have hq : itemQ (listsOf lv) b = itemQ (listsOf lv) (c0 :: rest) := by rw [hbe]
  rw [hq]
  simp only [itemQ]
  rw [hrl]
  refine run_if (p := (c0.toNat : Int) < 128) (by kernel_rfl) (by kernel_rfl) (fun hc => ?_) (fun hc => ?_)
  · refine run_bs (e := 5) (len := 1) (cells := #[.int .u8 (c0.toNat : Int)]) H (by kernel_rfl) (by kernel_rfl) fun b8 wc H => ?_
    refine run_st (n := 1) (t := 102) (off := 0) (v := .agg #[.bool false, .slice (some ⟨b8, 0, none⟩) 1 1, .slice none 0 0]) (cs' := #[.bool false, .slice (some ⟨b8, 0, none⟩) 1 1, .slice none 0 0]) H rfl (by kernel_rfl) (by kernel_rfl) (by kernel_rfl) fun wc H => ?_
    rw [if_pos (by omega)]
    exact run_ret (v := .tuple #[.agg #[.bool false, .slice (some ⟨b8, 0, none⟩) 1 1, .slice none 0 0], .slice A2 rest.length rest.length]) (by kernel_rfl) (by kernel_rfl) (resN Try.results97 (vs := [.agg #[.bool false, .slice (some ⟨b8, 0, none⟩) 1 1, .slice none 0 0], .slice A2 rest.length rest.length]) (by simp) ⟨rv_cell (H.blk 1 rfl) (by kernel_rfl) (by kernel_rfl), rv_tmp (by kernel_rfl), trivial⟩)
      ⟨_, _, _, rfl, (H.map (c' := Ck.dat (itemT lv) [.bool false, .slice (some ⟨b8, 0, none⟩) 1 1, .slice none 0 0] (.mk false [c0] [])) fun S hS => item_mk lv (blk_own1 hS.1 hS.2) (Sl.nil _ _ _)).take 1, hrest⟩
  have hc1 := hc
  clear hc
  rw [if_neg (by omega)]
  refine run_if (p := (c0.toNat : Int) < 192) (by kernel_rfl) (by kernel_rfl) (fun hc => ?_) (fun hc => ?_)
  · rw [if_pos (by omega)]
    refine run_callP (f := 118) (args := #[.int .u8 (c0.toNat : Int), .int .u8 128, .slice A2 rest.length rest.length]) (by kernel_rfl) (by kernel_rfl) pf118 (body118_calls hrest (hW.trans H.below) _ _ (c0.toNat - 128) (by omega) (by omega)) fun e wc he => ?_
    cases hbo : bodyP (c0.toNat - 128) rest with
    | error er =>
      rw [hbo] at he
      exact .inr ⟨_, he.1, (by kernel_rfl), rfl, H.below.trans he.2⟩
    | ok q =>
      obtain ⟨i, l⟩ := q
      rw [hbo] at he
      obtain ⟨v1, v2, he, h1, h2, hE⟩ := he
      refine .inl ⟨_, he, ?_⟩
      replace H := H.ext hE
      have hil := (bodyP_len hbo).1
      simp only at h1 h2 hil ⊢
      obtain ⟨Ai, ci, rfl⟩ := h1.form
      obtain ⟨Al, cl, rfl⟩ := h2.form
      unfold small at hs
      have hrl2 : rest.length < b.length := by omega
      refine run_lit (.bool (!decide ((i.length : Int) = 1))) (by kernel_rfl) (by kernel_rfl) ?_
      by_cases hi1 : (i.length : Int) = 1
      · rw [decide_eq_true hi1]
        obtain ⟨ci0, hci0⟩ : ∃ ci0, i[0]? = some ci0 := ⟨_, List.getElem?_eq_getElem (by omega)⟩
        have hhd : i.headD 0 = ci0 := by
          cases i with
          | nil => simp at hci0
          | cons a r => simp at hci0; subst hci0; rfl
        obtain ⟨bi, oi, cs, rfl, ⟨hcs, -⟩, hcell⟩ := (h1.ext (hW.trans H.below)).get hci0
        subst hcs
        refine run_val (v := .pointer (some ⟨bi, oi + 0 * 1, none⟩)) (by kernel_rfl) (op_indexN (t := 27) (e := 5) (n := i.length) (c := ci) (k := .i64) (by kernel_rfl) (by kernel_rfl) (by kernel_rfl) (by omega)) ?_
        refine run_val (v := .int .u8 (ci0.toNat : Int)) (by kernel_rfl) (op_load (t := 5) (b := bi) (off := oi + 0 * 1) (by kernel_rfl) (run_loadVar_one (by kernel_rfl) (hcell 0 _ rfl))) ?_
        refine run_callP (f := 98) (args := #[.bool (decide ((ci0.toNat : Int) ≥ 128)), .int .i64 8]) (by kernel_rfl) (by kernel_rfl) pf98 (need98_calls _ 8 _) fun e wc he => ?_
        by_cases hg : (ci0.toNat : Int) ≥ 128
        · rw [if_pos (decide_eq_true hg)] at he
          obtain ⟨he, hw⟩ := he
          subst hw
          refine .inl ⟨_, he, ?_⟩
          rw [if_neg (by rw [hhd]; omega)]
          refine run_call (f := 108) (args := #[.slice (some ⟨bi, oi, none⟩) i.length ci]) (by kernel_rfl) (by kernel_rfl) pf108 (clone108_calls (h1.ext (hW.trans H.below)) (show i.length ≤ 137438953472 by omega)) fun e wc ⟨v', he, hH⟩ => ⟨_, he, ?_⟩
          replace H := H.join hH
          obtain ⟨A', c', rfl⟩ := (H.sl 0 rfl).form
          refine run_st (n := 1) (t := 102) (off := 0) (v := .agg #[.bool false, .slice A' i.length c', .slice none 0 0]) (cs' := #[.bool false, .slice A' i.length c', .slice none 0 0]) H rfl (by kernel_rfl) (by kernel_rfl) (by kernel_rfl) fun wc H => ?_
          exact run_ret (v := .tuple #[.agg #[.bool false, .slice A' i.length c', .slice none 0 0], .slice Al l.length cl]) (by kernel_rfl) (by kernel_rfl) (resN Try.results97 (vs := [.agg #[.bool false, .slice A' i.length c', .slice none 0 0], .slice Al l.length cl]) (by simp) ⟨rv_cell (H.blk 1 rfl) (by kernel_rfl) (by kernel_rfl), rv_tmp (by kernel_rfl), trivial⟩)
            ⟨_, _, _, rfl, (H.map (c' := Ck.dat (itemT lv) [.bool false, .slice A' i.length c', .slice none 0 0] (.mk false i [])) fun S hS => item_mk lv hS (Sl.nil _ _ _)).take 1, h2⟩
        · rw [if_neg (by simpa using hg)] at he
          rw [if_pos (by rw [hhd]; omega)]
          exact .inr ⟨_, he.1, (by kernel_rfl), rfl, H.below.trans he.2⟩
      · rw [decide_eq_false hi1]
        refine run_callP (f := 98) (args := #[.bool true, .int .i64 8]) (by kernel_rfl) (by kernel_rfl) pf98 (need98_calls _ 8 _) fun e wc he => ?_
        rw [if_pos rfl] at he
        obtain ⟨he, hw⟩ := he
        subst hw
        refine .inl ⟨_, he, ?_⟩
        rw [if_neg (by omega)]
        refine run_call (f := 108) (args := #[.slice Ai i.length ci]) (by kernel_rfl) (by kernel_rfl) pf108 (clone108_calls (h1.ext (hW.trans H.below)) (show i.length ≤ 137438953472 by omega)) fun e wc ⟨v', he, hH⟩ => ⟨_, he, ?_⟩
        replace H := H.join hH
        obtain ⟨A', c', rfl⟩ := (H.sl 0 rfl).form
        refine run_st (n := 1) (t := 102) (off := 0) (v := .agg #[.bool false, .slice A' i.length c', .slice none 0 0]) (cs' := #[.bool false, .slice A' i.length c', .slice none 0 0]) H rfl (by kernel_rfl) (by kernel_rfl) (by kernel_rfl) fun wc H => ?_
        exact run_ret (v := .tuple #[.agg #[.bool false, .slice A' i.length c', .slice none 0 0], .slice Al l.length cl]) (by kernel_rfl) (by kernel_rfl) (resN Try.results97 (vs := [.agg #[.bool false, .slice A' i.length c', .slice none 0 0], .slice Al l.length cl]) (by simp) ⟨rv_cell (H.blk 1 rfl) (by kernel_rfl) (by kernel_rfl), rv_tmp (by kernel_rfl), trivial⟩)
          ⟨_, _, _, rfl, (H.map (c' := Ck.dat (itemT lv) [.bool false, .slice A' i.length c', .slice none 0 0] (.mk false i [])) fun S hS => item_mk lv hS (Sl.nil _ _ _)).take 1, h2⟩
  · rw [if_neg (by omega)]
    refine run_callP (f := 98) (args := #[.bool (decide ((lv : Int) > 0)), .int .i64 8]) (by kernel_rfl) (by kernel_rfl) pf98 (need98_calls _ 8 _) fun e wc he => ?_
    cases lv with
    | zero =>
      rw [if_neg (by decide)] at he
      exact .inr ⟨_, he.1, (by kernel_rfl), rfl, H.below.trans he.2⟩
    | succ n =>
    rw [if_pos (decide_eq_true (by omega))] at he
    obtain ⟨he, hw⟩ := he
    subst hw
    refine .inl ⟨_, he, ?_⟩
    have ihn : ItemC n := ih n rfl
    simp only [listsOf, listP]
    refine run_callP (f := 118) (args := #[.int .u8 (c0.toNat : Int), .int .u8 192, .slice A2 rest.length rest.length]) (by kernel_rfl) (by kernel_rfl) pf118 (body118_calls hrest (hW.trans H.below) _ _ (c0.toNat - 192) (by omega) (by have := c0.toNat_lt; omega)) fun e wc he => ?_
    cases hbo : bodyP (c0.toNat - 192) rest with
    | error er =>
      rw [hbo] at he
      exact .inr ⟨_, he.1, (by kernel_rfl), rfl, H.below.trans he.2⟩
    | ok q =>
    obtain ⟨inner, l⟩ := q
    rw [hbo] at he
    obtain ⟨v1, v2, he, h1, h2, hE⟩ := he
    refine .inl ⟨_, he, ?_⟩
    replace H := H.ext hE
    have hil := (bodyP_len hbo).1
    simp only at h1 h2 hil ⊢
    obtain ⟨Ai, ci, rfl⟩ := h1.form
    obtain ⟨Al, cl, rfl⟩ := h2.form
    have hsm : inner.length ≤ 137438953472 := by unfold small at hs; omega
    refine run_st (n := 0) (t := 4) (off := 0) (v := .bool true) (cs' := #[.bool true, .slice none 0 0, .slice none 0 0]) H rfl (by kernel_rfl) (by kernel_rfl) (by kernel_rfl) fun wc H => ?_
    have H := (H.nil (itemT n) 102).swap
    have hitl : ∀ b r, itemP n b = .ok r → r.2.length < b.length := fun b r h => itemP_len n h
    refine run_loop (fun m a w' => ∃ (done : List Item) (inner' : Bytes) (A' : Option Addr) (c' : Nat), m = inner'.length ∧ (∃ u, a = env 83 u [(1, .int .i64 ((n + 1 : Nat) : Int)), (4, .pointer (some ⟨b4, 0, none⟩)), (5, .slice Al l.length cl), (10, .slice A' inner'.length c')]) ∧
      (∃ vl, HS w w' [Ck.blk b4 102 #[.bool true, .slice none 0 0, vl], Ck.own (itemT n) 102 vl done]) ∧ Sl Ty.u8 W Any inner' (.slice A' inner'.length c') ∧ done.length + inner'.length ≤ inner.length ∧
      itemsP (itemP n) inner.length inner = (itemsP (itemP n) inner'.length inner').map (done ++ ·)) _ (by kernel_rfl) ⟨[], inner, Ai, ci, rfl, env_intro (by kernel_rfl) (by kernel_rfl) (by kernel_rfl), ⟨_, H⟩, h1, by simp, by
        cases itemsP (itemP n) inner.length inner <;> rfl⟩ ?_
    clear H
    rintro m a w' ⟨done, inner', A', c', rfl, ⟨u, rfl⟩, ⟨vl, H⟩, hin, hlen, hres⟩ next
    obtain ⟨Ad, cd, rfl⟩ := (H.sl 1 rfl).form
    refine run_if (p := (inner'.length : Int) > 0) (by kernel_rfl) (by kernel_rfl) (fun hc => ?_) (fun hc => ?_)
    · have hne : ¬ inner'.length = 0 := by omega
      obtain ⟨k, hk⟩ : ∃ k, inner'.length = k + 1 := ⟨inner'.length - 1, by omega⟩
      have hunf : itemsP (itemP n) inner'.length inner' = match itemP n inner' with
          | .error e => .error e
          | .ok (y, r) => match itemsP (itemP n) r.length r with | .error e => .error e | .ok l => .ok (y :: l) := by
        rw [hk]
        conv => lhs; unfold itemsP
        rw [if_neg hne]
        cases hit : itemP n inner' with
        | error e => rfl
        | ok q =>
          obtain ⟨y, r⟩ := q
          have := hitl _ _ hit
          simp only at this ⊢
          rw [itemsP_fuel hitl k r.length r (by omega) (Nat.le_refl _)]
      rw [hunf] at hres
      refine run_alloc (t := 102) (v := .agg #[.bool false, .slice none 0 0, .slice none 0 0]) H (by kernel_rfl) (by kernel_rfl) fun b11 wc H => ?_
      have hwr : IntKind.i64.wrap (((n + 1 : Nat) : Int) - 1) = (n : Int) := by rw [i64_of (by omega) (by omega)]; omega
      refine run_callP (f := 97) (args := #[.slice A' inner'.length c', .int .i64 (IntKind.i64.wrap (((n + 1 : Nat) : Int) - 1))]) (by kernel_rfl) (by kernel_rfl) pf97 (by rw [hwr]; exact ihn hin (hW.trans H.below) (show inner'.length ≤ 137438953472 by omega)) fun e wc he => ?_
      cases hit : itemP n inner' with
      | error er =>
        rw [hit] at he hres
        have hr2 : itemsP (itemP n) inner.length inner = .error er := by rw [hres]; rfl
        rw [hr2]
        exact .inr ⟨_, he.1, (by kernel_rfl), rfl, H.below.trans he.2⟩
      | ok q =>
      obtain ⟨y, r⟩ := q
      rw [hit] at he hres
      have hlr := hitl _ _ hit
      simp only at hlr hres
      obtain ⟨vb, vl2, v2, he, hH, hr⟩ := he
      refine .inl ⟨_, he, ?_⟩
      replace H := H.join hH
      clear hH
      simp only at hr
      obtain ⟨A2', c2', rfl⟩ := hr.form
      have hopen := item_open n (H.kd 0 rfl)
      obtain ⟨vb', vl', hcs, ho1, ho2⟩ := hopen
      simp only [List.cons.injEq, and_true, true_and] at hcs
      obtain ⟨rfl, rfl⟩ := hcs
      obtain ⟨Ab, cb, rfl⟩ := ho1.form
      obtain ⟨Ac, cc, rfl⟩ := ho2.form
      clear ho1 ho2
      refine run_st (n := 1) (t := 102) (off := 0) (v := .agg #[.bool y.parts.1, .slice Ab y.parts.2.1.length cb, .slice Ac y.parts.2.2.length cc]) (cs' := #[.bool y.parts.1, .slice Ab y.parts.2.1.length cb, .slice Ac y.parts.2.2.length cc]) H rfl (by kernel_rfl) (by kernel_rfl) (by kernel_rfl) fun wc H => ?_
      refine run_ld (n := 2) (t := 100) (off := 2) (v := .slice Ad done.length cd) H rfl (by kernel_rfl) (by kernel_rfl) (by kernel_rfl) ?_
      refine run_ld (n := 1) (t := 102) (off := 0) (v := .agg #[.bool y.parts.1, .slice Ab y.parts.2.1.length cb, .slice Ac y.parts.2.2.length cc]) H rfl (by kernel_rfl) (by kernel_rfl) (by kernel_rfl) ?_
      refine run_bs (e := 102) (len := 1) (cells := #[.bool y.parts.1, .slice Ab y.parts.2.1.length cb, .slice Ac y.parts.2.2.length cc]) H (by kernel_rfl) (by kernel_rfl) fun b9 wc H => ?_
      have hbb := H.blk 0 rfl
      have H := (H.pick 1 rfl).pick 4 rfl
      obtain ⟨vd, w3, hra, H⟩ := H.app_own (cap := 1) (row100 n) hbb (by omega)
      obtain ⟨Ad2, cd2, rfl⟩ := (H.sl 0 rfl).form
      refine run_val (by kernel_rfl) (op_append (s := .slice Ad done.length cd) (by kernel_rfl) hra) ?_
      refine run_st (n := 3) (t := 100) (off := 2) (v := .slice Ad2 (done ++ [y]).length cd2) (cs' := #[.bool true, .slice none 0 0, .slice Ad2 (done ++ [y]).length cd2]) H rfl (by kernel_rfl) (by kernel_rfl) (by kernel_rfl) fun wc H => ?_
      refine run_at (by kernel_rfl) (next r.length _ _ hlr ⟨done ++ [y], r, A2', c2', rfl, env_intro (by kernel_rfl) (by kernel_rfl) (by kernel_rfl), ⟨_, (H.pick 3 rfl).take 2⟩, hr, by rw [List.length_append, List.length_singleton]; omega, ?_⟩)
      rw [hres]
      cases itemsP (itemP n) r.length r with
      | error e => rfl
      | ok l => simp [Except.map]
    · have hz : inner'.length = 0 := by omega
      have hnil : inner' = [] := List.length_eq_zero_iff.1 hz
      subst hnil
      have hr2 : itemsP (itemP n) inner.length inner = .ok done := by
        rw [hres]; simp [itemsP, Except.map]
      rw [hr2]
      refine run_ld (n := 0) (t := 102) (off := 0) (v := .agg #[.bool true, .slice none 0 0, .slice Ad done.length cd]) H rfl (by kernel_rfl) (by kernel_rfl) (by kernel_rfl) ?_
      refine run_st (n := 0) (t := 102) (off := 0) (v := .agg #[.bool true, .slice none 0 0, .slice Ad done.length cd]) (cs' := #[.bool true, .slice none 0 0, .slice Ad done.length cd]) H rfl (by kernel_rfl) (by kernel_rfl) (by kernel_rfl) fun wc H => ?_
      exact run_ret (v := .tuple #[.agg #[.bool true, .slice none 0 0, .slice Ad done.length cd], .slice Al l.length cl]) (by kernel_rfl) (by kernel_rfl) (resN Try.results97 (vs := [.agg #[.bool true, .slice none 0 0, .slice Ad done.length cd], .slice Al l.length cl]) (by simp) ⟨rv_cell (H.blk 0 rfl) (by kernel_rfl) (by kernel_rfl), rv_tmp (by kernel_rfl), trivial⟩)
        ⟨_, _, _, rfl, ((H.pick 1 rfl).map (c' := Ck.dat (itemT (n + 1)) [.bool true, .slice none 0 0, .slice Ad done.length cd] (.mk true [] done)) fun S hS => item_mk (n + 1) own_nilS (own_sl hS)).take 1, h2⟩
end Go.Proofs.Ythmajhdemooecaa

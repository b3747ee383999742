/- The walks of a sum's bytes, of what a message may be, and of its reading. -/
import Derived.Test.YthmajhdemooecaaF4
namespace Go.Proofs.Ythmajhdemooecaa
open Go.PM Go.RowKit
set_option linter.unusedVariables false
attribute [local irreducible] adv advD fuel

/-- The byte i of four words. -/
def hb (f : Nat → Int) (i : Nat) : Int := IntKind.u8.wrap ((f (i / 8)).fdiv (2 ^ (56 - 8 * (i % 8))))

theorem pf110 : plainFn Try.prog 110 = true := by kernel_rfl
theorem pf88 : plainFn Try.prog 88 = true := by kernel_rfl
theorem pf77 : plainFn Try.prog 77 = true := by kernel_rfl

theorem sh_num (k : Nat) (h : k < 32) : IntKind.i64.wrap (56 - IntKind.i64.wrap (8 * (k : Int).tmod 8)) = ((56 - 8 * (k % 8) : Nat) : Int) := by
  have e : (k : Int).tmod 8 = ((k % 8 : Nat) : Int) := rfl
  rw [e]
  have : k % 8 < 8 := Nat.mod_lt _ (by omega)
  have e2 : IntKind.i64.wrap (8 * ((k % 8 : Nat) : Int)) = 8 * ((k % 8 : Nat) : Int) := i64_of (by omega) (by omega)
  rw [e2, i64_of (by omega) (by omega)]
  omega

set_option maxHeartbeats 1000000 in
theorem from110_calls (f : Nat → Int) (w : World) :
    Calls Try.prog 110 #[.agg (tab 4 fun j => .int .u64 (f j))] w fun e w' => e = .returned (.agg (tab 32 fun i => .int .u8 (hb f i))) ∧ Ext w w' := by
  have H := HS.refl w
  refine calls_run Try.func110 (by kernel_rfl) ?_
  refine run_box (t := 145) (v := .agg (tab 4 fun j => .int .u64 (f j))) H (by kernel_rfl) (by kernel_rfl) fun b1 wc H => ?_
  refine run_alloc (t := 47) (v := .agg (tab 32 fun _ => .int .u8 0)) H (by kernel_rfl) (by kernel_rfl) fun b2 wc H => ?_
  refine run_alloc (t := 47) (v := .agg (tab 32 fun _ => .int .u8 0)) H (by kernel_rfl) (by kernel_rfl) fun b3 wc H => ?_
  have H : HS w wc [Ck.blk b3 47 (tab 32 fun i => if i < 0 then .int .u8 (hb f i) else .int .u8 0), Ck.blk b2 47 (tab 32 fun _ => .int .u8 0), Ck.blk b1 145 (tab 4 fun j => .int .u64 (f j))] := H
  refine run_loop (fun m a w' => ∃ k, m = 32 - k ∧ k ≤ 32 ∧ (∃ u, a = env 22 u [(1, .pointer (some ⟨b1, 0, none⟩)), (2, .pointer (some ⟨b2, 0, none⟩)), (3, .pointer (some ⟨b3, 0, none⟩)), (5, .int .i64 (k : Int))]) ∧
    HS w w' [Ck.blk b3 47 (tab 32 fun i => if i < k then .int .u8 (hb f i) else .int .u8 0), Ck.blk b2 47 (tab 32 fun _ => .int .u8 0), Ck.blk b1 145 (tab 4 fun j => .int .u64 (f j))]) _ (by kernel_rfl) ⟨0, rfl, Nat.zero_le _, env_intro (by kernel_rfl) (by kernel_rfl) (by kernel_rfl), H⟩ ?_
  clear H
  rintro m a w' ⟨k, rfl, hk, ⟨u, rfl⟩, H⟩ next
  refine run_if (p := (k : Int) < 32) (by kernel_rfl) (by kernel_rfl) (fun hc => ?_) (fun hc => ?_)
  · have hlt : k < 32 := by omega
    have h4 : k / 8 < 4 := by omega
    have hdv := tdiv_nat k 8 (by omega)
    refine run_val (v := .pointer (some ⟨b1, 0 + k / 8 * 1, none⟩)) (by kernel_rfl) (op_indexA (t := 145) (e := 24) (n := 4) (k := .i64) (i := IntKind.i64.wrap ((k : Int).tdiv 8)) (by kernel_rfl) (by kernel_rfl) (by kernel_rfl) hdv h4) ?_
    refine run_val (v := .int .u64 (f (k / 8))) (by kernel_rfl) (op_load1 (t := 24) (off := 0 + k / 8 * 1) (by kernel_rfl) (by kernel_rfl) (H.blk 2 rfl) (by rw [Nat.zero_add, Nat.mul_one]; exact tab_get h4)) ?_
    refine run_val (v := .int .u64 ((f (k / 8)).fdiv (2 ^ (56 - 8 * (k % 8))))) (by kernel_rfl) (op_shr (t := 24) (k := .u64) (yk := .i64) (y := IntKind.i64.wrap (56 - IntKind.i64.wrap (8 * (k : Int).tmod 8))) (by kernel_rfl) (sh_num k hlt) (by show _ ≤ 64; omega)) ?_
    refine run_val (v := .pointer (some ⟨b3, 0 + k * 1, none⟩)) (by kernel_rfl) (op_indexA (t := 47) (e := 5) (n := 32) (k := .i64) (i := (k : Int)) (by kernel_rfl) (by kernel_rfl) (by kernel_rfl) rfl hlt) ?_
    refine run_unit (by kernel_rfl) (op_store1 (t := 5) (b := b3) (off := 0 + k * 1) (v := .int .u8 (hb f k)) (by kernel_rfl) (H.blk 0 rfl) (by kernel_rfl) (by rw [tab_size]; omega) rfl rfl) ?_
    have H := H.putU 0 rfl ((tab 32 fun i => if i < k then Value.int .u8 (hb f i) else .int .u8 0).setIfInBounds (0 + k * 1) (.int .u8 (hb f k)))
    refine run_at (by kernel_rfl) (next (32 - (k + 1)) _ _ (by omega) ⟨k + 1, rfl, by omega, ?_, ?_⟩)
    · rw [← wrap_succ (by omega)]
      exact env_intro (by kernel_rfl) (by kernel_rfl) (by kernel_rfl)
    · rw [tab_set] at H
      rw [tab_set, tab_congr (f := fun i => if i < k + 1 then Value.int .u8 (hb f i) else .int .u8 0) (g := fun i => if i = 0 + k * 1 then Value.int .u8 (hb f k) else if i < k then Value.int .u8 (hb f i) else .int .u8 0) (fun i _ => by
        rw [Nat.zero_add, Nat.mul_one]
        by_cases he : i = k
        · subst he; simp
        · rw [if_neg he]
          by_cases hl : i < k
          · rw [if_pos hl, if_pos (by omega)]
          · rw [if_neg hl, if_neg (by omega)])]
      exact H
  · obtain rfl : k = 32 := by omega
    have e : (tab 32 fun i => if i < 32 then Value.int .u8 (hb f i) else .int .u8 0) = tab 32 fun i => .int .u8 (hb f i) := tab_congr fun i hi => if_pos hi
    rw [e] at H
    refine run_ld (n := 0) (t := 47) (off := 0) (v := .agg (tab 32 fun i => .int .u8 (hb f i))) H rfl (by kernel_rfl) (by kernel_rfl) (by kernel_rfl) ?_
    refine run_st (n := 1) (t := 47) (off := 0) (v := .agg (tab 32 fun i => .int .u8 (hb f i))) (cs' := tab 32 fun i => .int .u8 (hb f i)) H rfl (by kernel_rfl) (by kernel_rfl) (by kernel_rfl) fun wc H => ?_
    exact run_ret (v := .agg (tab 32 fun i => .int .u8 (hb f i))) (by kernel_rfl) (by kernel_rfl) (res1 Try.results110 (rv_cell (H.blk 1 rfl) (by kernel_rfl) (by kernel_rfl))) ⟨rfl, H.below⟩

/-- A message's cells. -/
structure Msg where
  kind : Int
  fr : Int
  to : Int
  am : Int
  no : Int
  key : Nat → Int
  nxt : Nat → Int
def msgA (m : Msg) : Array Value :=
  ([Value.int .u8 m.kind, .int .u64 m.fr, .int .u64 m.to, .int .u64 m.am, .int .u64 m.no] ++ (List.range 32).map (fun i => Value.int .u8 (m.key i)) ++ (List.range 32).map (fun i => Value.int .u8 (m.nxt i))).toArray
/-- The numbers are of their kinds. -/
def Msg.ok (m : Msg) : Prop := (Lit.int .u8 m.kind).wf = true ∧ (Lit.int .u64 m.fr).wf = true ∧ (Lit.int .u64 m.to).wf = true ∧ (Lit.int .u64 m.am).wf = true ∧ (Lit.int .u64 m.no).wf = true ∧ (∀ i, (Lit.int .u8 (m.key i)).wf = true) ∧ (∀ i, (Lit.int .u8 (m.nxt i)).wf = true)
def msgKinds : List IntKind := [.u8, .u64, .u64, .u64, .u64] ++ List.replicate 32 .u8 ++ List.replicate 32 .u8

theorem ints_range (k : IntKind) (f : Nat → Int) (h : ∀ i, (Lit.int k (f i)).wf = true) (n : Nat) : IntsOf (List.replicate n k) ((List.range n).map fun i => Value.int k (f i)) := by
  induction n with
  | zero => exact trivial
  | succ n ih =>
    rw [List.range_succ, List.map_append, List.replicate_succ']
    exact ih.append ⟨⟨f n, rfl, h n⟩, trivial⟩

theorem msg_ints {m : Msg} (h : m.ok) : IntsOf msgKinds (msgA m).toList := by
  obtain ⟨h1, h2, h3, h4, h5, h6, h7⟩ := h
  have a : IntsOf [.u8, .u64, .u64, .u64, .u64] [Value.int .u8 m.kind, .int .u64 m.fr, .int .u64 m.to, .int .u64 m.am, .int .u64 m.no] := ⟨⟨_, rfl, h1⟩, ⟨_, rfl, h2⟩, ⟨_, rfl, h3⟩, ⟨_, rfl, h4⟩, ⟨_, rfl, h5⟩, trivial⟩
  exact (a.append (ints_range .u8 m.key h6 32)).append (ints_range .u8 m.nxt h7 32)

def Msg.zero : Msg := ⟨0, 0, 0, 0, 0, fun _ => 0, fun _ => 0⟩
theorem msgA_zero {m : Msg} : msgA m = msgA Msg.zero ↔ m.kind = 0 ∧ m.fr = 0 ∧ m.to = 0 ∧ m.am = 0 ∧ m.no = 0 ∧ (∀ i, i < 32 → m.key i = 0) ∧ ∀ i, i < 32 → m.nxt i = 0 := by
  constructor
  · intro h
    have h1 := congrArg Array.toList h
    simp only [msgA] at h1
    obtain ⟨h2, h3⟩ := List.append_inj' h1 (by simp)
    obtain ⟨h4, h5⟩ := List.append_inj' h2 (by simp)
    simp only [List.cons.injEq, Value.int.injEq, true_and, and_true] at h4
    rw [List.map_inj_left] at h3 h5
    obtain ⟨a1, a2, a3, a4, a5⟩ := h4
    refine ⟨a1, a2, a3, a4, a5, fun i hi => ?_, fun i hi => ?_⟩
    · have := h5 i (List.mem_range.2 hi)
      injection this
    · have := h3 i (List.mem_range.2 hi)
      injection this
  · rintro ⟨h1, h2, h3, h4, h5, h6, h7⟩
    have e1 : (List.range 32).map (fun i => Value.int .u8 (m.key i)) = (List.range 32).map (fun i => Value.int .u8 (Msg.zero.key i)) := List.map_congr_left fun i hi => by rw [h6 i (List.mem_range.1 hi)]; rfl
    have e2 : (List.range 32).map (fun i => Value.int .u8 (m.nxt i)) = (List.range 32).map (fun i => Value.int .u8 (Msg.zero.nxt i)) := List.map_congr_left fun i hi => by rw [h7 i (List.mem_range.1 hi)]; rfl
    unfold msgA
    rw [e1, e2, h1, h2, h3, h4, h5]
    rfl

theorem zero_ok : Msg.zero.ok := ⟨by decide, by decide, by decide, by decide, by decide, fun _ => rfl, fun _ => rfl⟩
theorem kinds49 : kindsT Try.prog 4 49 = some msgKinds := by kernel_rfl
theorem key49 : Try.prog.keyTypeAt 4 49 = true := by kernel_rfl
theorem guard49 : Try.prog.eqGuardType Try.prog.depth 49 = false := by kernel_rfl
theorem formed49 (m : Msg) : (Value.agg (msgA m)).formed Try.prog 49 = true := by
  have : (msgA m).size = 69 := by simp [msgA]
  unfold Value.formed
  rw [show Try.prog.underlying 49 = some (.struct (Try.prog.fieldsOf 49)) by kernel_rfl]
  show ((msgA m).size == Try.prog.cellsOf 49) = true
  rw [this]
  kernel_rfl

theorem ok_of {m : Msg} (h : m.ok) : m.ok := h

/-- The words of a deposit. -/
def Msg.dep (m : Msg) : Prop := m.to < 32 ∧ m.am ≠ 0 ∧ m.fr = 0 ∧ m.no = 0 ∧ (∀ i, i < 32 → m.key i = 0) ∧ ∀ i, i < 32 → m.nxt i = 0

set_option maxHeartbeats 1000000 in
theorem may88_1 {m : Msg} (hm : m.ok) (hk : m.kind = 1) (w : World) :
    Calls Try.prog 88 #[.agg (msgA m)] w fun e w' => ∃ r : Bool, e = .returned (.bool r) ∧ (r = true ↔ m.dep) ∧ Ext w w' := by
  obtain ⟨kind, fr, to, am, no, key, nxt⟩ := m
  simp only at hk
  subst hk
  have H := HS.refl w
  refine calls_run Try.func88 (by kernel_rfl) ?_
  refine run_box (t := 49) (v := .agg (msgA ⟨1, fr, to, am, no, key, nxt⟩)) H (by kernel_rfl) (by kernel_rfl) fun b1 wc H => ?_
  refine run_ld (n := 0) (t := 49) (off := 0) (v := .agg (msgA ⟨1, fr, to, am, no, key, nxt⟩)) H rfl (by kernel_rfl) (by kernel_rfl) (by kernel_rfl) ?_
  refine run_alloc (t := 49) (v := .agg (msgA Msg.zero)) H (by kernel_rfl) (by kernel_rfl) fun b3 wc H => ?_
  refine run_st (n := 0) (t := 49) (off := 0) (v := .agg (msgA ⟨1, fr, to, am, no, key, nxt⟩)) (cs' := msgA ⟨1, fr, to, am, no, key, nxt⟩) H rfl (by kernel_rfl) (by kernel_rfl) (by kernel_rfl) fun wc H => ?_
  refine run_ld (n := 1) (t := 45) (off := 0) (v := .int .u8 1) H rfl (by kernel_rfl) (by kernel_rfl) (by kernel_rfl) ?_
  refine run_cond (t := false) (by kernel_rfl) (by kernel_rfl) (fun h => by cases h) (fun _ => ?_)
  refine run_cond (t := false) (by kernel_rfl) (by kernel_rfl) (fun h => by cases h) (fun _ => ?_)
  refine run_cond (t := true) (by kernel_rfl) (by kernel_rfl) (fun _ => ?_) (fun h => by cases h)
  refine run_ld (n := 1) (t := 45) (off := 0) (v := .int .u8 1) H rfl (by kernel_rfl) (by kernel_rfl) (by kernel_rfl) ?_
  refine run_lit (.bool true) (by kernel_rfl) (by kernel_rfl) ?_
  refine run_ld (n := 1) (t := 24) (off := 2) (v := .int .u64 to) H rfl (by kernel_rfl) (by kernel_rfl) (by kernel_rfl) ?_
  refine run_ask (to ≥ 32) (by kernel_rfl) (by kernel_rfl) (fun hc => ?_) (fun hc => ?_)
  · refine run_cond (t := true) (by kernel_rfl) (by kernel_rfl) (fun _ => ?_) (fun h => by cases h)
    exact run_ret (v := .bool false) (by kernel_rfl) (by kernel_rfl) (by kernel_rfl) (⟨false, rfl, ⟨fun h => by (cases h), fun h => absurd h.1 (by simpa using hc)⟩, H.below⟩)
  have h1 := hc
  clear hc
  refine run_ld (n := 1) (t := 45) (off := 0) (v := .int .u8 1) H rfl (by kernel_rfl) (by kernel_rfl) (by kernel_rfl) ?_
  refine run_lit (.bool true) (by kernel_rfl) (by kernel_rfl) ?_
  refine run_ld (n := 1) (t := 24) (off := 3) (v := .int .u64 am) H rfl (by kernel_rfl) (by kernel_rfl) (by kernel_rfl) ?_
  refine run_if (p := am = 0) (by kernel_rfl) (by kernel_rfl) (fun hc => ?_) (fun hc => ?_)
  · exact run_ret (v := .bool false) (by kernel_rfl) (by kernel_rfl) (by kernel_rfl) (⟨false, rfl, ⟨fun h => by (cases h), fun h => absurd hc h.2.1⟩, H.below⟩)
  have h2 := hc
  clear hc
  refine run_st (n := 0) (t := 45) (off := 0) (v := .int .u8 0) (cs' := msgA ⟨0, fr, to, am, no, key, nxt⟩) H rfl (by kernel_rfl) (by kernel_rfl) (by kernel_rfl) fun wc H => ?_
  refine run_st (n := 0) (t := 24) (off := 2) (v := .int .u64 0) (cs' := msgA ⟨0, fr, 0, am, no, key, nxt⟩) H rfl (by kernel_rfl) (by kernel_rfl) (by kernel_rfl) fun wc H => ?_
  refine run_st (n := 0) (t := 24) (off := 3) (v := .int .u64 0) (cs' := msgA ⟨0, fr, 0, 0, no, key, nxt⟩) H rfl (by kernel_rfl) (by kernel_rfl) (by kernel_rfl) fun wc H => ?_
  refine run_ld (n := 0) (t := 49) (off := 0) (v := .agg (msgA ⟨0, fr, 0, 0, no, key, nxt⟩)) H rfl (by kernel_rfl) (by kernel_rfl) (by kernel_rfl) ?_
  have hok : (Msg.mk 0 fr 0 0 no key nxt).ok := ⟨rfl, hm.2.1, rfl, rfl, hm.2.2.2.2.1, hm.2.2.2.2.2⟩
  refine run_eqv (m := 4) (xs := msgA ⟨0, fr, 0, 0, no, key, nxt⟩) (ys := msgA Msg.zero) (by kernel_rfl) (by kernel_rfl) guard49 kinds49 key49 (by decide) (msg_ints hok) (msg_ints zero_ok) (formed49 _) (formed49 _) fun r hr => ?_
  exact run_ret (v := .bool r) (by kernel_rfl) (by kernel_rfl) (by kernel_rfl) (⟨r, rfl, hr.trans (msgA_zero.trans ⟨fun h => ⟨Int.not_le.1 h1, h2, h.2.1, h.2.2.2.2⟩, fun h => ⟨rfl, h.2.2.1, rfl, rfl, h.2.2.2⟩⟩), H.below⟩)

set_option maxHeartbeats 1000000 in
/-- What is said of a message of another kind: something. -/
theorem may88_2 {m : Msg} (hm : m.ok) (hk : m.kind = 2) (w : World) :
    Calls Try.prog 88 #[.agg (msgA m)] w fun e w' => ∃ r : Bool, e = .returned (.bool r) ∧ Ext w w' := by
  obtain ⟨kind, fr, to, am, no, key, nxt⟩ := m
  simp only at hk
  subst hk
  have H := HS.refl w
  refine calls_run Try.func88 (by kernel_rfl) ?_
  refine run_box (t := 49) (v := .agg (msgA ⟨2, fr, to, am, no, key, nxt⟩)) H (by kernel_rfl) (by kernel_rfl) fun b1 wc H => ?_
  refine run_ld (n := 0) (t := 49) (off := 0) (v := .agg (msgA ⟨2, fr, to, am, no, key, nxt⟩)) H rfl (by kernel_rfl) (by kernel_rfl) (by kernel_rfl) ?_
  refine run_alloc (t := 49) (v := .agg (msgA Msg.zero)) H (by kernel_rfl) (by kernel_rfl) fun b3 wc H => ?_
  refine run_st (n := 0) (t := 49) (off := 0) (v := .agg (msgA ⟨2, fr, to, am, no, key, nxt⟩)) (cs' := msgA ⟨2, fr, to, am, no, key, nxt⟩) H rfl (by kernel_rfl) (by kernel_rfl) (by kernel_rfl) fun wc H => ?_
  refine run_ld (n := 1) (t := 45) (off := 0) (v := .int .u8 2) H rfl (by kernel_rfl) (by kernel_rfl) (by kernel_rfl) ?_
  refine run_cond (t := true) (by kernel_rfl) (by kernel_rfl) (fun _ => ?_) (fun h => by cases h)
  refine run_cond (t := true) (by kernel_rfl) (by kernel_rfl) (fun _ => ?_) (fun h => by cases h)
  refine run_ld (n := 1) (t := 24) (off := 1) (v := .int .u64 fr) H rfl (by kernel_rfl) (by kernel_rfl) (by kernel_rfl) ?_
  refine run_if (p := fr ≥ 32) (by kernel_rfl) (by kernel_rfl) (fun hc => ?_) (fun hc => ?_)
  · exact run_ret (v := .bool false) (by kernel_rfl) (by kernel_rfl) (by kernel_rfl) (⟨false, rfl, H.below⟩)
  refine run_st (n := 0) (t := 24) (off := 1) (v := .int .u64 0) (cs' := msgA ⟨2, 0, to, am, no, key, nxt⟩) H rfl (by kernel_rfl) (by kernel_rfl) (by kernel_rfl) fun wc H => ?_
  refine run_st (n := 0) (t := 24) (off := 4) (v := .int .u64 0) (cs' := msgA ⟨2, 0, to, am, 0, key, nxt⟩) H rfl (by kernel_rfl) (by kernel_rfl) (by kernel_rfl) fun wc H => ?_
  refine run_st (n := 0) (t := 47) (off := 5) (v := .agg (tab 32 fun _ => .int .u8 0)) (cs' := msgA ⟨2, 0, to, am, 0, fun _ => 0, nxt⟩) H rfl (by kernel_rfl) (by kernel_rfl) (by kernel_rfl) fun wc H => ?_
  refine run_st (n := 0) (t := 47) (off := 37) (v := .agg (tab 32 fun _ => .int .u8 0)) (cs' := msgA ⟨2, 0, to, am, 0, fun _ => 0, fun _ => 0⟩) H rfl (by kernel_rfl) (by kernel_rfl) (by kernel_rfl) fun wc H => ?_
  refine run_ld (n := 1) (t := 45) (off := 0) (v := .int .u8 2) H rfl (by kernel_rfl) (by kernel_rfl) (by kernel_rfl) ?_
  refine run_lit (.bool true) (by kernel_rfl) (by kernel_rfl) ?_
  refine run_ld (n := 1) (t := 24) (off := 2) (v := .int .u64 to) H rfl (by kernel_rfl) (by kernel_rfl) (by kernel_rfl) ?_
  refine run_ask (to ≥ 32) (by kernel_rfl) (by kernel_rfl) (fun hc => ?_) (fun hc => ?_)
  · refine run_cond (t := true) (by kernel_rfl) (by kernel_rfl) (fun _ => ?_) (fun h => by cases h)
    exact run_ret (v := .bool false) (by kernel_rfl) (by kernel_rfl) (by kernel_rfl) (⟨false, rfl, H.below⟩)
  refine run_ld (n := 1) (t := 45) (off := 0) (v := .int .u8 2) H rfl (by kernel_rfl) (by kernel_rfl) (by kernel_rfl) ?_
  refine run_lit (.bool false) (by kernel_rfl) (by kernel_rfl) ?_
  refine run_cond (t := false) (by kernel_rfl) (by kernel_rfl) (fun h => by cases h) (fun _ => ?_)
  refine run_st (n := 0) (t := 45) (off := 0) (v := .int .u8 0) (cs' := msgA ⟨0, 0, to, am, 0, fun _ => 0, fun _ => 0⟩) H rfl (by kernel_rfl) (by kernel_rfl) (by kernel_rfl) fun wc H => ?_
  refine run_st (n := 0) (t := 24) (off := 2) (v := .int .u64 0) (cs' := msgA ⟨0, 0, 0, am, 0, fun _ => 0, fun _ => 0⟩) H rfl (by kernel_rfl) (by kernel_rfl) (by kernel_rfl) fun wc H => ?_
  refine run_st (n := 0) (t := 24) (off := 3) (v := .int .u64 0) (cs' := msgA ⟨0, 0, 0, 0, 0, fun _ => 0, fun _ => 0⟩) H rfl (by kernel_rfl) (by kernel_rfl) (by kernel_rfl) fun wc H => ?_
  refine run_ld (n := 0) (t := 49) (off := 0) (v := .agg (msgA ⟨0, 0, 0, 0, 0, fun _ => 0, fun _ => 0⟩)) H rfl (by kernel_rfl) (by kernel_rfl) (by kernel_rfl) ?_
  refine run_eqv (m := 4) (xs := msgA ⟨0, 0, 0, 0, 0, fun _ => 0, fun _ => 0⟩) (ys := msgA Msg.zero) (by kernel_rfl) (by kernel_rfl) guard49 kinds49 key49 (by decide) (msg_ints zero_ok) (msg_ints zero_ok) (formed49 _) (formed49 _) fun r hr => ?_
  exact run_ret (v := .bool r) (by kernel_rfl) (by kernel_rfl) (by kernel_rfl) (⟨r, rfl, H.below⟩)

set_option maxHeartbeats 1000000 in
theorem may88_3 {m : Msg} (hm : m.ok) (hk : m.kind = 3) (w : World) :
    Calls Try.prog 88 #[.agg (msgA m)] w fun e w' => ∃ r : Bool, e = .returned (.bool r) ∧ Ext w w' := by
  obtain ⟨kind, fr, to, am, no, key, nxt⟩ := m
  simp only at hk
  subst hk
  have H := HS.refl w
  refine calls_run Try.func88 (by kernel_rfl) ?_
  refine run_box (t := 49) (v := .agg (msgA ⟨3, fr, to, am, no, key, nxt⟩)) H (by kernel_rfl) (by kernel_rfl) fun b1 wc H => ?_
  refine run_ld (n := 0) (t := 49) (off := 0) (v := .agg (msgA ⟨3, fr, to, am, no, key, nxt⟩)) H rfl (by kernel_rfl) (by kernel_rfl) (by kernel_rfl) ?_
  refine run_alloc (t := 49) (v := .agg (msgA Msg.zero)) H (by kernel_rfl) (by kernel_rfl) fun b3 wc H => ?_
  refine run_st (n := 0) (t := 49) (off := 0) (v := .agg (msgA ⟨3, fr, to, am, no, key, nxt⟩)) (cs' := msgA ⟨3, fr, to, am, no, key, nxt⟩) H rfl (by kernel_rfl) (by kernel_rfl) (by kernel_rfl) fun wc H => ?_
  refine run_ld (n := 1) (t := 45) (off := 0) (v := .int .u8 3) H rfl (by kernel_rfl) (by kernel_rfl) (by kernel_rfl) ?_
  refine run_cond (t := false) (by kernel_rfl) (by kernel_rfl) (fun h => by cases h) (fun _ => ?_)
  refine run_cond (t := true) (by kernel_rfl) (by kernel_rfl) (fun _ => ?_) (fun h => by cases h)
  refine run_ld (n := 1) (t := 24) (off := 1) (v := .int .u64 fr) H rfl (by kernel_rfl) (by kernel_rfl) (by kernel_rfl) ?_
  refine run_if (p := fr ≥ 32) (by kernel_rfl) (by kernel_rfl) (fun hc => ?_) (fun hc => ?_)
  · exact run_ret (v := .bool false) (by kernel_rfl) (by kernel_rfl) (by kernel_rfl) (⟨false, rfl, H.below⟩)
  refine run_st (n := 0) (t := 24) (off := 1) (v := .int .u64 0) (cs' := msgA ⟨3, 0, to, am, no, key, nxt⟩) H rfl (by kernel_rfl) (by kernel_rfl) (by kernel_rfl) fun wc H => ?_
  refine run_st (n := 0) (t := 24) (off := 4) (v := .int .u64 0) (cs' := msgA ⟨3, 0, to, am, 0, key, nxt⟩) H rfl (by kernel_rfl) (by kernel_rfl) (by kernel_rfl) fun wc H => ?_
  refine run_st (n := 0) (t := 47) (off := 5) (v := .agg (tab 32 fun _ => .int .u8 0)) (cs' := msgA ⟨3, 0, to, am, 0, fun _ => 0, nxt⟩) H rfl (by kernel_rfl) (by kernel_rfl) (by kernel_rfl) fun wc H => ?_
  refine run_st (n := 0) (t := 47) (off := 37) (v := .agg (tab 32 fun _ => .int .u8 0)) (cs' := msgA ⟨3, 0, to, am, 0, fun _ => 0, fun _ => 0⟩) H rfl (by kernel_rfl) (by kernel_rfl) (by kernel_rfl) fun wc H => ?_
  refine run_ld (n := 1) (t := 45) (off := 0) (v := .int .u8 3) H rfl (by kernel_rfl) (by kernel_rfl) (by kernel_rfl) ?_
  refine run_lit (.bool false) (by kernel_rfl) (by kernel_rfl) ?_
  refine run_lit (.bool false) (by kernel_rfl) (by kernel_rfl) ?_
  refine run_ld (n := 1) (t := 45) (off := 0) (v := .int .u8 3) H rfl (by kernel_rfl) (by kernel_rfl) (by kernel_rfl) ?_
  refine run_lit (.bool true) (by kernel_rfl) (by kernel_rfl) ?_
  refine run_ld (n := 1) (t := 24) (off := 3) (v := .int .u64 am) H rfl (by kernel_rfl) (by kernel_rfl) (by kernel_rfl) ?_
  refine run_if (p := am = 0) (by kernel_rfl) (by kernel_rfl) (fun hc => ?_) (fun hc => ?_)
  · exact run_ret (v := .bool false) (by kernel_rfl) (by kernel_rfl) (by kernel_rfl) (⟨false, rfl, H.below⟩)
  refine run_st (n := 0) (t := 45) (off := 0) (v := .int .u8 0) (cs' := msgA ⟨0, 0, to, am, 0, fun _ => 0, fun _ => 0⟩) H rfl (by kernel_rfl) (by kernel_rfl) (by kernel_rfl) fun wc H => ?_
  refine run_st (n := 0) (t := 24) (off := 2) (v := .int .u64 0) (cs' := msgA ⟨0, 0, 0, am, 0, fun _ => 0, fun _ => 0⟩) H rfl (by kernel_rfl) (by kernel_rfl) (by kernel_rfl) fun wc H => ?_
  refine run_st (n := 0) (t := 24) (off := 3) (v := .int .u64 0) (cs' := msgA ⟨0, 0, 0, 0, 0, fun _ => 0, fun _ => 0⟩) H rfl (by kernel_rfl) (by kernel_rfl) (by kernel_rfl) fun wc H => ?_
  refine run_ld (n := 0) (t := 49) (off := 0) (v := .agg (msgA ⟨0, 0, 0, 0, 0, fun _ => 0, fun _ => 0⟩)) H rfl (by kernel_rfl) (by kernel_rfl) (by kernel_rfl) ?_
  refine run_eqv (m := 4) (xs := msgA ⟨0, 0, 0, 0, 0, fun _ => 0, fun _ => 0⟩) (ys := msgA Msg.zero) (by kernel_rfl) (by kernel_rfl) guard49 kinds49 key49 (by decide) (msg_ints zero_ok) (msg_ints zero_ok) (formed49 _) (formed49 _) fun r hr => ?_
  exact run_ret (v := .bool r) (by kernel_rfl) (by kernel_rfl) (by kernel_rfl) (⟨r, rfl, H.below⟩)

set_option maxHeartbeats 1000000 in
theorem may88_0 {m : Msg} (hm : m.ok) (h1 : m.kind ≠ 1) (h2 : m.kind ≠ 2) (h3 : m.kind ≠ 3) (w : World) :
    Calls Try.prog 88 #[.agg (msgA m)] w fun e w' => ∃ r : Bool, e = .returned (.bool r) ∧ Ext w w' := by
  obtain ⟨kind, fr, to, am, no, key, nxt⟩ := m
  simp only at h1 h2 h3
  have H := HS.refl w
  refine calls_run Try.func88 (by kernel_rfl) ?_
  refine run_box (t := 49) (v := .agg (msgA ⟨kind, fr, to, am, no, key, nxt⟩)) H (by kernel_rfl) (by kernel_rfl) fun b1 wc H => ?_
  refine run_ld (n := 0) (t := 49) (off := 0) (v := .agg (msgA ⟨kind, fr, to, am, no, key, nxt⟩)) H rfl (by kernel_rfl) (by kernel_rfl) (by kernel_rfl) ?_
  refine run_alloc (t := 49) (v := .agg (msgA Msg.zero)) H (by kernel_rfl) (by kernel_rfl) fun b3 wc H => ?_
  refine run_st (n := 0) (t := 49) (off := 0) (v := .agg (msgA ⟨kind, fr, to, am, no, key, nxt⟩)) (cs' := msgA ⟨kind, fr, to, am, no, key, nxt⟩) H rfl (by kernel_rfl) (by kernel_rfl) (by kernel_rfl) fun wc H => ?_
  refine run_ld (n := 1) (t := 45) (off := 0) (v := .int .u8 kind) H rfl (by kernel_rfl) (by kernel_rfl) (by kernel_rfl) ?_
  refine run_if (p := kind = 2) (by kernel_rfl) (by kernel_rfl) (fun hc => absurd hc (h2)) (fun hc => ?_)
  refine run_if (p := kind = 3) (by kernel_rfl) (by kernel_rfl) (fun hc => absurd hc (h3)) (fun hc => ?_)
  refine run_if (p := kind = 1) (by kernel_rfl) (by kernel_rfl) (fun hc => absurd hc (h1)) (fun hc => ?_)
  exact run_ret (v := .bool false) (by kernel_rfl) (by kernel_rfl) (by kernel_rfl) (⟨false, rfl, H.below⟩)

/-- May it be? Of a deposit it is said which. -/
theorem may88_calls {m : Msg} (hm : m.ok) (w : World) :
    Calls Try.prog 88 #[.agg (msgA m)] w fun e w' => ∃ r : Bool, e = .returned (.bool r) ∧ (m.kind = 1 → (r = true ↔ m.dep)) ∧ Ext w w' := by
  by_cases h1 : m.kind = 1
  · exact (may88_1 hm h1 w).mono fun e w' ⟨r, h, h', h''⟩ => ⟨r, h, fun _ => h', h''⟩
  · have key : Calls Try.prog 88 #[.agg (msgA m)] w fun e w' => ∃ r : Bool, e = .returned (.bool r) ∧ Ext w w' := by
      by_cases h2 : m.kind = 2
      · exact may88_2 hm h2 w
      · by_cases h3 : m.kind = 3
        · exact may88_3 hm h3 w
        · exact may88_0 hm h1 h2 h3 w
    exact key.mono fun e w' ⟨r, h, h'⟩ => ⟨r, h, fun h => absurd h h1, h'⟩
end Go.Proofs.Ythmajhdemooecaa

/- The walks of a message's writing by the document. -/
import Derived.Test.YthmajhdemooecaaF19
namespace Go.Proofs.Ythmajhdemooecaa
open Go.PM Go.RowKit
set_option linter.unusedVariables false
set_option linter.unusedSimpArgs false
attribute [local irreducible] adv advD advF fuel

theorem pf50 : plainFn Try.prog 50 = true := by kernel_rfl
theorem pf17 : plainFn Try.prog 17 = true := by kernel_rfl
theorem pf19 : plainFn Try.prog 19 = true := by kernel_rfl

theorem flat_u8 : Ty.u8.Flat := Ty.flat_scalar _ _ _
theorem copy19_calls {b : Bytes} {vb : Value} {w : World} (hb : Sl Ty.u8 w Any b vb) (hn : small b.length) :
    Calls Try.prog 19 #[vb] w fun e w' => ∃ v, e = .returned v ∧ HS w w' [Ck.own Ty.u8 5 v b] := by
  have H := HS.refl w
  unfold small at hn
  obtain ⟨Ab, cb, rfl⟩ := hb.form
  refine calls_run Try.func19 (by kernel_rfl) ?_
  refine run_bs0 (e := 5) Ty.u8 H (by kernel_rfl) (by kernel_rfl) fun b1 wc H => ?_
  obtain ⟨va1, wa1, hr1, H⟩ := (H.pick 0 rfl).app_all flat_u8 row27 (hb.ext H.below) (by simp; omega)
  replace H := H.map (c' := Ck.own Ty.u8 5 va1 b) fun S hS => hS
  obtain ⟨Aa1, ca1, rfl⟩ : ∃ A c, va1 = .slice A b.length c := (H.sl 0 rfl).form
  refine run_val (by kernel_rfl) (op_append (s := .slice (some ⟨b1, 0, none⟩) 0 0) (by kernel_rfl) hr1) ?_
  exact run_ret (v := .slice Aa1 b.length ca1) (by kernel_rfl) (by kernel_rfl) (by kernel_rfl) (⟨_, rfl, H⟩)
  -- H : Ck.own Ty.u8 5 (.slice Aa1 b.length ca1) b

/-- A byte of a number's. -/
def u8of (z : Int) : UInt8 := UInt8.ofNat z.toNat
theorem u8of_val {z : Int} (h0 : 0 ≤ z) (h1 : z < 256) : ((u8of z).toNat : Int) = z := by
  unfold u8of
  rw [UInt8.toNat_ofNat']; omega
theorem u8w (z : Int) : ((u8of (IntKind.u8.wrap z)).toNat : Int) = IntKind.u8.wrap z := by
  rw [u8_mod]; exact u8of_val (Int.emod_nonneg _ (by decide)) (Int.emod_lt_of_pos _ (by decide))
def eightP (n : Int) (i : Nat) : Bytes := (List.range i).map fun j => u8of (IntKind.u8.wrap (n.fdiv (2 ^ (8 * (7 - j)))))
theorem eightP_succ (n : Int) (i : Nat) : eightP n (i + 1) = eightP n i ++ [u8of (IntKind.u8.wrap (n.fdiv (2 ^ (8 * (7 - i)))))] := by
  unfold eightP; rw [List.range_succ, List.map_append]; rfl
theorem eightP_len (n : Int) (i : Nat) : (eightP n i).length = i := by unfold eightP; simp
theorem eight_sh {i : Nat} (h : i ≤ 7) : IntKind.u64.wrap (IntKind.i64.wrap (8 * (7 - (i : Int)))) = ((8 * (7 - i) : Nat) : Int) := by
  rw [i64_of (by omega) (by omega), u64_of (by omega) (by omega)]; omega
theorem eight_dec {i : Nat} (h : i ≤ 7) : IntKind.i64.wrap ((7 - (i : Int)) - 1) = 7 - ((i + 1 : Nat) : Int) := by
  rw [i64_of (by omega) (by omega)]; omega

set_option maxHeartbeats 1000000 in
theorem eight50_calls (n : Int) (w : World) : Calls Try.prog 50 #[.int .u64 n] w fun e w' => ∃ v, e = .returned v ∧ HS w w' [Ck.own Ty.u8 5 v (eightP n 8)] := by
  have H := HS.refl w
  refine calls_run Try.func50 (by kernel_rfl) ?_
  have H := H.nil Ty.u8 5
  refine run_loop (fun mm a w' => ∃ i, mm = 8 - i ∧ i ≤ 8 ∧ ∃ A3, ∃ c3, (∃ u, a = env 19 u [(0, .int .u64 n), (3, .slice A3 (eightP n i).length c3), (4, .int .i64 (7 - (i : Int)))]) ∧ HS w w' [Ck.own Ty.u8 5 (.slice A3 (eightP n i).length c3) (eightP n i)]) _ (by kernel_rfl) ⟨0, rfl, Nat.zero_le _, none, 0, env_intro (by kernel_rfl) (by kernel_rfl) (by kernel_rfl), H⟩ ?_
  clear H
  rintro mm a w' ⟨i, rfl, hi, A3, c3, ⟨u, rfl⟩, H⟩ next
  refine run_if (p := (7 - (i : Int)) ≥ 0) (by kernel_rfl) (by kernel_rfl) (fun hc => ?_) (fun hc => ?_)
  · refine run_val (v := .int .u64 (n.fdiv (2 ^ (8 * (7 - i))))) (by kernel_rfl) (op_shr (t := 24) (k := .u64) (yk := .u64) (y := (IntKind.u64.wrap (IntKind.i64.wrap (8 * (7 - (i : Int)))))) (by kernel_rfl) (eight_sh (by omega)) (by show _ ≤ 64; omega)) ?_
    refine run_bs (e := 5) (len := 1) (cells := #[.int .u8 (IntKind.u8.wrap (n.fdiv (2 ^ (8 * (7 - i)))))]) H (by kernel_rfl) (by kernel_rfl) fun bb1 wc H => ?_
    obtain ⟨va1, wa1, hr1, H⟩ := (H.pick 1 rfl).app_all flat_u8 row27 (blk_u8 (H.blk 0 rfl) (n := 1) (xs := [u8of (IntKind.u8.wrap (n.fdiv (2 ^ (8 * (7 - i)))))]) rfl (by decide) (by simp only [List.map_cons, List.map_nil, u8w])) (by simp only [eightP_len, List.length_singleton]; omega)
    obtain ⟨Aa1, ca1, rfl⟩ : ∃ A c, va1 = .slice A ((eightP n i) ++ [u8of (IntKind.u8.wrap (n.fdiv (2 ^ (8 * (7 - i)))))]).length c := (H.sl 0 rfl).form
    refine run_val (by kernel_rfl) (op_append (s := .slice A3 (eightP n i).length c3) (by kernel_rfl) hr1) ?_
    refine run_at (by kernel_rfl) (next (8 - (i + 1)) _ _ (by omega) ⟨i + 1, rfl, by omega, Aa1, ca1, ?_, ?_⟩)
    · rw [eightP_succ, ← eight_dec (i := i) (by omega)]
      exact env_intro (by kernel_rfl) (by kernel_rfl) (by kernel_rfl)
    · rw [eightP_succ]; exact H.sel [0] (by decide) rfl
  · exact run_ret (v := .slice A3 (eightP n i).length c3) (by kernel_rfl) (by kernel_rfl) (by kernel_rfl) (⟨_, rfl, (show i = 8 by omega) ▸ H⟩)
    -- H : Ck.own Ty.u8 5 (.slice A3 (eightP n i).length c3) (eightP n i)

def five (m : Msg) : List Int := [IntKind.u64.wrap m.kind, m.fr, m.to, m.am, m.no]
theorem wf_wrap_u64 {x : Int} (h : (Lit.int .u64 x).wf = true) : IntKind.u64.wrap x = x := by
  have : 0 ≤ x ∧ x < 18446744073709551616 := by
    simp [Lit.wf, IntKind.min, IntKind.max, IntKind.signed, IntKind.bits] at h; omega
  exact u64_of this.1 this.2
theorem five_wf {m : Msg} (hm : m.ok) : ∀ x ∈ five m, IntKind.u64.wrap x = x := by
  intro x hx
  simp only [five, List.mem_cons, List.not_mem_nil, or_false] at hx
  rcases hx with rfl | rfl | rfl | rfl | rfl
  · rw [u64_mod, u64_mod, Int.emod_emod_of_dvd _ (Int.dvd_refl _)]
  · exact wf_wrap_u64 hm.2.1
  · exact wf_wrap_u64 hm.2.2.1
  · exact wf_wrap_u64 hm.2.2.2.1
  · exact wf_wrap_u64 hm.2.2.2.2.1
def fiveP (m : Msg) (i : Nat) : Bytes := ((five m).take i).flatMap fun n => eightP n 8
theorem fiveP_succ {m : Msg} {i : Nat} {x : Int} (h : (five m)[i]? = some x) : fiveP m (i + 1) = fiveP m i ++ eightP x 8 := by
  obtain ⟨hlt, rfl⟩ := List.getElem?_eq_some_iff.1 h
  unfold fiveP
  rw [List.take_succ_eq_append_getElem hlt, List.flatMap_append]
  simp
theorem fiveP_len {m : Msg} {i : Nat} (h : i ≤ 5) : (fiveP m i).length = 8 * i := by
  unfold fiveP
  rw [List.length_flatMap]
  have : ((five m).take i).map (fun n => (eightP n 8).length) = List.replicate i 8 := by
    rw [List.eq_replicate_iff]
    refine ⟨by rw [List.length_map, List.length_take]; show min i 5 = i; omega, fun b hb => ?_⟩
    obtain ⟨n, -, rfl⟩ := List.mem_map.1 hb
    exact eightP_len n 8
  rw [this, List.sum_replicate_nat]; omega
def keyP (f : Nat → Int) : Bytes := (List.range 32).map fun i => u8of (f i)
theorem keyP_len (f : Nat → Int) : (keyP f).length = 32 := by unfold keyP; simp
def writeP (m : Msg) : Bytes := fiveP m 5 ++ keyP m.key ++ keyP m.nxt

theorem blk_ints {k : IntKind} {w : World} {b n : Nat} {T : TypeId} {cells : Array Value} (hB : Blk w b T cells) {xs : List Int} (hn : xs.length = n) (hm : n ≤ maxLen) (hc : cells.toList = xs.map (Value.int k)) (hw : ∀ x ∈ xs, k.wrap x = x) : Sl (Ty.int k) w Any xs (.slice (some ⟨b, 0, none⟩) n n) :=
  blk_sl hB trivial hn hm fun j x hj => ⟨_, ⟨rfl, hw x (List.mem_of_getElem? hj)⟩, fun i v hi => by
    cases i with
    | succ i => simp at hi
    | zero =>
      simp at hi; subst hi
      show cells[j * 1 + 0]? = _
      rw [Nat.mul_one, Nat.add_zero, ← Array.getElem?_toList, hc, List.getElem?_map, hj]; rfl⟩
theorem blk_u8o {w : World} {b o n : Nat} {T : TypeId} {cells : Array Value} (hB : Blk w b T cells) {xs : Bytes} (hn : xs.length = n) (hm : n ≤ maxLen) (hc : ∀ j x, xs[j]? = some x → cells[o + j]? = some (Value.int .u8 (x.toNat : Int))) : Sl Ty.u8 w Any xs (.slice (some ⟨b, o, none⟩) n n) := by
  subst hn
  refine ⟨some ⟨b, o, none⟩, xs.length, rfl, Nat.le_refl _, hm, (fun h => by cases h), fun _ => ⟨b, o, rfl, trivial, hB.lt, fun j x hj => ⟨_, ⟨rfl, trivial⟩, fun i v hi => ?_⟩⟩⟩
  cases i with
  | succ i => simp at hi
  | zero =>
    simp at hi; subst hi
    rw [hB.cell]
    show cells[o + j * 1 + 0]? = _
    rw [Nat.mul_one, Nat.add_zero]; exact hc j x hj
theorem wf_u8 {x : Int} (h : (Lit.int .u8 x).wf = true) : ((u8of x).toNat : Int) = x := by
  have : 0 ≤ x ∧ x < 256 := by
    simp [Lit.wf, IntKind.min, IntKind.max, IntKind.signed, IntKind.bits] at h; omega
  exact u8of_val this.1 this.2
theorem keyP_get {f : Nat → Int} {j : Nat} {x : UInt8} (h : (keyP f)[j]? = some x) : j < 32 ∧ x = u8of (f j) := by
  have hlt := (List.getElem?_eq_some_iff.1 h).1
  rw [keyP_len] at hlt
  unfold keyP at h
  rw [List.getElem?_map, List.getElem?_range hlt] at h
  exact ⟨hlt, by simpa using h.symm⟩
theorem blk_key5 {m : Msg} (hm : m.ok) {w : World} {b : Nat} (hB : Blk w b 49 (msgA m)) : Sl Ty.u8 w Any (keyP m.key) (.slice (some ⟨b, 5, none⟩) 32 32) :=
  blk_u8o hB (keyP_len _) (by decide) fun j x hj => by
    obtain ⟨hlt, rfl⟩ := keyP_get hj
    rw [wf_u8 (hm.2.2.2.2.2.1 j)]
    unfold msgA
    simp only [List.getElem?_toArray]
    rw [List.getElem?_append_left (by simp; omega), List.getElem?_append_right (by simp)]
    simp only [List.length_cons, List.length_nil]
    rw [show 5 + j - (0 + 1 + 1 + 1 + 1 + 1) = j by omega, List.getElem?_map, List.getElem?_range hlt]; rfl
theorem blk_key37 {m : Msg} (hm : m.ok) {w : World} {b : Nat} (hB : Blk w b 49 (msgA m)) : Sl Ty.u8 w Any (keyP m.nxt) (.slice (some ⟨b, 37, none⟩) 32 32) :=
  blk_u8o hB (keyP_len _) (by decide) fun j x hj => by
    obtain ⟨hlt, rfl⟩ := keyP_get hj
    rw [wf_u8 (hm.2.2.2.2.2.2 j)]
    unfold msgA
    simp only [List.getElem?_toArray]
    rw [List.getElem?_append_right (by simp)]
    simp only [List.length_append, List.length_cons, List.length_nil, List.length_map, List.length_range]
    rw [show 37 + j - (0 + 1 + 1 + 1 + 1 + 1 + 32) = j by omega, List.getElem?_map, List.getElem?_range hlt]; rfl

def RetB (w : World) (e : Ending) (w' : World) (b : Bytes) (er : Int) : Prop := ∃ v, e = .returned (.tuple #[v, .int .i64 er]) ∧ HS w w' [Ck.own Ty.u8 5 v b]

set_option maxHeartbeats 4000000 in
theorem write17_calls {m : Msg} (hm : m.ok) (w : World) : Calls Try.prog 17 #[.agg (msgA m)] w fun e w' => ∃ b er, RetB w e w' b er ∧ (m.kind = 1 → (m.dep → er = 0 ∧ b = writeP m) ∧ (¬ m.dep → er = 2 ∧ b = [])) := by
  have H := HS.refl w
  refine calls_run Try.func17 (by kernel_rfl) ?_
  refine run_box (t := 49) (v := .agg (msgA m)) H (by kernel_rfl) (by kernel_rfl) fun b1 wc H => ?_
  refine run_ld (n := 0) (t := 49) (off := 0) (v := .agg (msgA m)) H rfl (by kernel_rfl) (by kernel_rfl) (by kernel_rfl) ?_
  refine run_call (f := 49) (args := #[.agg (msgA m)]) (by kernel_rfl) (by kernel_rfl) pf49 (may49_calls hm _) fun e wc ⟨r1, he, hr1, hE⟩ => ⟨_, he, ?_⟩
  replace H := H.ext hE
  refine run_cond (t := !r1) (by kernel_rfl) (by kernel_rfl) (fun hc => ?_) (fun hc => ?_)
  · exact run_ret (v := .tuple #[.slice none 0 0, .int .i64 2]) (by kernel_rfl) (by kernel_rfl) (resN Try.results17 (vs := [.slice none 0 0, .int .i64 2]) (by simp) ⟨rv_tmp (by kernel_rfl), rv_tmp (by kernel_rfl), trivial⟩) (⟨[], 2, ⟨_, rfl, (H.take 0).nil Ty.u8 5⟩, fun hk => ⟨fun h9 => (by have := (hr1 hk).2 h9; simp_all), fun _ => ⟨rfl, rfl⟩⟩⟩)
    -- H : Ck.blk b1 49 (msgA m)
  · refine run_ld (n := 0) (t := 45) (off := 0) (v := .int .u8 m.kind) H rfl (by kernel_rfl) (by kernel_rfl) (by kernel_rfl) ?_
    refine run_ld (n := 0) (t := 24) (off := 1) (v := .int .u64 m.fr) H rfl (by kernel_rfl) (by kernel_rfl) (by kernel_rfl) ?_
    refine run_ld (n := 0) (t := 24) (off := 2) (v := .int .u64 m.to) H rfl (by kernel_rfl) (by kernel_rfl) (by kernel_rfl) ?_
    refine run_ld (n := 0) (t := 24) (off := 3) (v := .int .u64 m.am) H rfl (by kernel_rfl) (by kernel_rfl) (by kernel_rfl) ?_
    refine run_ld (n := 0) (t := 24) (off := 4) (v := .int .u64 m.no) H rfl (by kernel_rfl) (by kernel_rfl) (by kernel_rfl) ?_
    refine run_bs (e := 24) (len := 5) (cells := #[.int .u64 (IntKind.u64.wrap m.kind), .int .u64 m.fr, .int .u64 m.to, .int .u64 m.am, .int .u64 m.no]) H (by kernel_rfl) (by kernel_rfl) fun bb1 wc H => ?_
    have H := H.nil Ty.u8 5
    refine run_loop (fun mm a w' => ∃ i, mm = 5 - i ∧ i ≤ 5 ∧ ∃ A5, ∃ c5, (∃ u, a = env 40 u [(1, .pointer (some ⟨b1, 0, none⟩)), (4, .slice (some ⟨bb1, 0, none⟩) 5 5), (5, .slice A5 (fiveP m i).length c5), (6, .int .i64 (i : Int))]) ∧ HS w w' [Ck.own Ty.u8 5 (.slice A5 (fiveP m i).length c5) (fiveP m i), Ck.blk bb1 24 #[.int .u64 (IntKind.u64.wrap m.kind), .int .u64 m.fr, .int .u64 m.to, .int .u64 m.am, .int .u64 m.no], Ck.blk b1 49 (msgA m)]) _ (by kernel_rfl) ⟨0, rfl, Nat.zero_le _, none, 0, env_intro (by kernel_rfl) (by kernel_rfl) (by kernel_rfl), H⟩ ?_
    clear H
    rintro mm a w' ⟨i, rfl, hi, A5, c5, ⟨u, rfl⟩, H⟩ next
    refine run_if (p := (i : Int) < 5) (by kernel_rfl) (by kernel_rfl) (fun hc => ?_) (fun hc => ?_)
    · obtain ⟨x1, hg_x1⟩ : ∃ z, (five m)[i]? = some z := ⟨_, List.getElem?_eq_getElem (by show i < 5; omega)⟩
      have hd_x1 := drop_cons hg_x1
      refine run_elem (t := 92) (e := 24) (k := .i64) (blk_ints (H.blk 1 rfl) (n := 5) (xs := five m) rfl (by decide) rfl (five_wf hm)) hg_x1 (by kernel_rfl) (by kernel_rfl) (by kernel_rfl) (by kernel_rfl) fun be1 oe1 _ hK_x1 hc1 => ?_
      obtain ⟨rfl, -⟩ := hK_x1
      refine run_eld (t := 24) (f := 0) (v := .int .u64 x1) hc1 (Ext.refl _) rfl rfl (by kernel_rfl) (by kernel_rfl) (by kernel_rfl) ?_
      refine run_call (f := 50) (args := #[.int .u64 x1]) (by kernel_rfl) (by kernel_rfl) pf50 (eight50_calls x1 _) fun e wc ⟨v1, he, hH⟩ => ⟨_, he, ?_⟩
      replace H := H.join hH
      clear hH
      obtain ⟨Av1, cv1, rfl⟩ := (H.sl 0 rfl).form
      obtain ⟨va1, wa1, hr1, H⟩ := (H.pick 1 rfl).app_all flat_u8 row27 (H.sl 0 rfl) (by have := fiveP_len (m := m) (i := i) (by omega); simp only [List.length_append, eightP_len, keyP_len]; omega)
      obtain ⟨Aa1, ca1, rfl⟩ : ∃ A c, va1 = .slice A ((fiveP m i) ++ (eightP x1 8)).length c := (H.sl 0 rfl).form
      refine run_val (by kernel_rfl) (op_append (s := .slice A5 (fiveP m i).length c5) (by kernel_rfl) hr1) ?_
      refine run_at (by kernel_rfl) (next (5 - (i + 1)) _ _ (by omega) ⟨i + 1, rfl, by omega, Aa1, ca1, ?_, ?_⟩)
      · rw [fiveP_succ hg_x1, ← wrap_succ (n := i) (by omega)]
        exact env_intro (by kernel_rfl) (by kernel_rfl) (by kernel_rfl)
      · rw [fiveP_succ hg_x1]; exact H.sel [0, 2, 3] (by decide) rfl
    · refine run_draw follows (by kernel_rfl) fun wD hE => ?_
      replace H := H.ext hE
      obtain ⟨va2, wa2, hr2, H⟩ := (H.pick 0 rfl).app_all flat_u8 row27 (blk_key5 hm (H.blk 2 rfl)) (by have := fiveP_len (m := m) (i := i) (by omega); simp only [List.length_append, eightP_len, keyP_len]; omega)
      obtain ⟨Aa2, ca2, rfl⟩ : ∃ A c, va2 = .slice A ((fiveP m i) ++ (keyP m.key)).length c := (H.sl 0 rfl).form
      refine rob_barv (by kernel_rfl) (by kernel_rfl) (op_append (s := .slice A5 (fiveP m i).length c5) (by kernel_rfl) hr2) ?_
      obtain ⟨va3, wa3, hr3, H⟩ := (H.pick 0 rfl).app_all flat_u8 row27 (blk_key37 hm (H.blk 2 rfl)) (by have := fiveP_len (m := m) (i := i) (by omega); simp only [List.length_append, eightP_len, keyP_len]; omega)
      obtain ⟨Aa3, ca3, rfl⟩ : ∃ A c, va3 = .slice A (((fiveP m i) ++ (keyP m.key)) ++ (keyP m.nxt)).length c := (H.sl 0 rfl).form
      refine rob_barv (by kernel_rfl) (by kernel_rfl) (op_append (s := .slice Aa2 ((fiveP m i) ++ (keyP m.key)).length ca2) (by kernel_rfl) hr3) ?_
      refine rob_done (by kernel_rfl) ?_
      exact run_ret (v := .tuple #[.slice Aa3 (((fiveP m i) ++ (keyP m.key)) ++ (keyP m.nxt)).length ca3, .int .i64 0]) (by kernel_rfl) (by kernel_rfl) (resN Try.results17 (vs := [.slice Aa3 (((fiveP m i) ++ (keyP m.key)) ++ (keyP m.nxt)).length ca3, .int .i64 0]) (by simp) ⟨rv_tmp (by kernel_rfl), rv_tmp (by kernel_rfl), trivial⟩) (⟨_, 0, ⟨_, rfl, H.sel [0] (by decide) rfl⟩, fun hk => ⟨fun _ => ⟨rfl, by rw [show i = 5 by omega]; rfl⟩, fun h9 => absurd ((hr1 hk).1 (by simp_all)) h9⟩⟩)
      -- H : Ck.own Ty.u8 5 (.slice Aa3 (((fiveP m i) ++ (keyP m.key)) ++ (keyP m.nxt)).length ca3) (((fiveP m i) ++ (keyP m.key)) ++ (keyP m.nxt)), Ck.blk bb1 24 #[.int .u64 (IntKind.u64.wrap m.kind), .int .u64 m.fr, .int .u64 m.to, .int .u64 m.am, .int .u64 m.no], Ck.blk b1 49 (msgA m)
end Go.Proofs.Ythmajhdemooecaa

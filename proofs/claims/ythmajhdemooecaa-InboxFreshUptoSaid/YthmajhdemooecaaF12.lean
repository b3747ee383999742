/- The walk of Decode. -/
import Derived.Test.YthmajhdemooecaaF11
namespace Go.Proofs.Ythmajhdemooecaa
open Go.PM Go.RowKit
set_option linter.unusedVariables false
set_option linter.unusedSimpArgs false
set_option linter.unnecessarySimpa false
attribute [local irreducible] adv advD advF fuel

theorem pf65 : plainFn Try.prog 65 = true := by kernel_rfl

theorem calls_runD {f : FuncId} {fn : Func} {args : Array Value} {w : World} {R : Ending → World → Prop} (hf : Try.prog.funcs[f]? = some fn) (hb : fn.body.isSome = true)
    (h : Run Try.prog (bodyPostD Try.prog fn R) (adv Try.prog fuel ([.code (fn.body.getD .skip)], { tmps := args ++ Array.replicate (fn.ntmps - args.size) undef, defers := [] })) w) : Calls Try.prog f args w R := by
  cases hc : fn.body with
  | none => rw [hc] at hb; cases hb
  | some c =>
    rw [hc] at h
    exact calls_of_wp_defers hf hc (wp_of_run (run_adv fuel h))

theorem CallsD.mono' {P : Program} {f : FuncId} {args : Array Value} {u : FrameMode} {w : World} {R R' : Ending → FrameMode → World → Prop} (h : CallsD P f args u w R) (hR : ∀ e u' w', R e u' w' → R' e u' w') : CallsD P f args u w R' := fun c cs hc =>
  let ⟨e, u', w', fr, h1, h2⟩ := h c cs hc
  ⟨e, u', w', fr, hR _ _ _ h1, h2⟩

/-- What is deferred. -/
def dfr (b2 b3 : Nat) : Deferred := { target := .fn (.func 96) #[.pointer (some ⟨b2, 0, none⟩), .pointer (some ⟨b3, 0, none⟩)], args := #[] }

theorem leaves_none {R : Ending → World → Prop} {a : Act} {w : World} {v : Value} (hd : a.defers = []) (hr : (results Try.f65 a.tmps).run Try.prog w = .ok v w) (h : R (.returned v) w) : Leaves Try.prog Try.f65 a.tmps R a.defers .returning w := by
  rw [hd]; exact ⟨v, hr, h⟩

theorem leaves_ok {R : Ending → World → Prop} {a : Act} {w0 w : World} {L : List Ck} {b2 b3 : Nat} (hd : a.defers = [dfr b2 b3]) (H : HS w0 w L) (h : ∀ w', HS w0 w' L → ∃ v, (results Try.f65 a.tmps).run Try.prog w' = .ok v w' ∧ R (.returned v) w') :
    Leaves Try.prog Try.f65 a.tmps R a.defers .returning w := by
  rw [hd]
  refine ⟨by simp, _, _, 96, #[.pointer (some ⟨b2, 0, none⟩), .pointer (some ⟨b3, 0, none⟩)], rfl, by kernel_rfl, CallsD.mono' (leave96 H) fun e u' w' hh => ?_⟩
  obtain ⟨⟨v, rfl⟩, rfl, H'⟩ := hh
  exact h w' H'

theorem leaves_bad {R : Ending → World → Prop} {a : Act} {w0 w : World} {L : List Ck} {b2 b3 : Nat} {v20 v21 v22 v30 : Value} {er : Int} (hd : a.defers = [dfr b2 b3]) (H : HS w0 w (Ck.blk b2 102 #[v20, v21, v22] :: Ck.blk b3 33 #[v30] :: L))
    (h : ∀ w', HS w0 w' (Ck.blk b2 102 zItem :: Ck.blk b3 33 #[.int .i64 er] :: L) → ∃ v, (results Try.f65 a.tmps).run Try.prog w' = .ok v w' ∧ R (.returned v) w') :
    Leaves Try.prog Try.f65 a.tmps R a.defers (.panicking (wrongC er)) w := by
  rw [hd]
  refine ⟨by simp, _, _, 96, #[.pointer (some ⟨b2, 0, none⟩), .pointer (some ⟨b3, 0, none⟩)], rfl, by kernel_rfl, CallsD.mono' (catch96 H) fun e u' w' hh => ?_⟩
  obtain ⟨⟨v, rfl⟩, hu, H'⟩ := hh
  simp only [hu]
  exact h w' H'

theorem run_endL {fn : Func} {R : Ending → World → Prop} {σ : List Go.Item × Act} {w : World} (hk : isEnd σ = true) (h : Leaves Try.prog fn σ.2.tmps R σ.2.defers .returning w) : Run Try.prog (bodyPostD Try.prog fn R) σ w := run_end hk h h

def itemZ : Item := .mk false [] []
/-- What bytes are read as. -/
def decP (b : Bytes) : Item × Int :=
  if 65536 < b.length then (itemZ, 4) else
  match itemP 16 b with
  | .error e => (itemZ, e)
  | .ok (x, r) => if r.length = 0 then (x, 0) else (itemZ, 8)

def RetItem (w : World) (e : Ending) (w' : World) (x : Item) (er : Int) : Prop :=
  ∃ vb vl, e = .returned (.tuple #[.agg #[.bool x.parts.1, vb, vl], .int .i64 er]) ∧ HS w w' [Ck.dat (itemT 16) [.bool x.parts.1, vb, vl] x]

theorem zero_dat {w0 w : World} {L : List Ck} (H : HS w0 w L) : HS w0 w (Ck.dat (itemT 16) [.bool false, .slice none 0 0, .slice none 0 0] itemZ :: L) :=
  H.new (Ext.refl w) (S := fun _ => False) (item_mk 16 own_nilS (Sl.nil _ _ _)) fun k hk => hk.elim

set_option maxHeartbeats 1000000 in
theorem decode65_calls {b : Bytes} {v : Value} {w : World} (hx : Sl Ty.u8 w Any b v) :
    Calls Try.prog 65 #[v] w fun e w' => RetItem w e w' (decP b).1 (decP b).2 := by
  obtain ⟨A, c, rfl⟩ := hx.form
  have H := HS.refl w
  refine calls_runD Try.func65 (by kernel_rfl) ?_
  refine run_alloc (t := 102) (v := .agg #[.bool false, .slice none 0 0, .slice none 0 0]) H (by kernel_rfl) (by kernel_rfl) fun b2 wc H => ?_
  refine run_alloc (t := 33) (v := .int .i64 0) H (by kernel_rfl) (by kernel_rfl) fun b3 wc H => ?_
  have H := H.swap
  refine run_if (p := (b.length : Int) > 65536) (by kernel_rfl) (by kernel_rfl) (fun hc => ?_) (fun hc => ?_)
  · refine run_st (n := 0) (t := 102) (off := 0) (v := .agg #[.bool false, .slice none 0 0, .slice none 0 0]) (cs' := #[.bool false, .slice none 0 0, .slice none 0 0]) H rfl (by kernel_rfl) (by kernel_rfl) (by kernel_rfl) fun wc H => ?_
    refine run_st (n := 1) (t := 33) (off := 0) (v := .int .i64 4) (cs' := #[.int .i64 4]) H rfl (by kernel_rfl) (by kernel_rfl) (by kernel_rfl) fun wc H => ?_
    have hd : decP b = (itemZ, 4) := by unfold decP; rw [if_pos (by omega)]
    rw [hd]
    exact run_endL (by kernel_rfl) (leaves_none (v := .tuple #[.agg #[.bool false, .slice none 0 0, .slice none 0 0], .int .i64 4]) (by kernel_rfl) (resN Try.results65 (vs := [.agg #[.bool false, .slice none 0 0, .slice none 0 0], .int .i64 4]) (by simp) ⟨rv_cell (H.blk 0 rfl) (by kernel_rfl) (by kernel_rfl), rv_cell (H.blk 1 rfl) (by kernel_rfl) (by kernel_rfl), trivial⟩) ⟨_, _, rfl, zero_dat (H.take 0)⟩)
  have hb : ¬ 65536 < b.length := by omega
  have hsm : small b.length := by unfold small; omega
  refine run_defer (dfr b2 b3) (by kernel_rfl) (by kernel_rfl) ?_
  refine run_callP (f := 97) (args := #[.slice A b.length c, .int .i64 16]) (by kernel_rfl) (by kernel_rfl) pf97 (item97_calls 16 (by omega) hx H.below hsm) fun e wc he => ?_
  cases hit : itemP 16 b with
  | error er =>
    rw [hit] at he
    obtain ⟨he, hE⟩ := he
    replace H := H.ext hE
    have hd : decP b = (itemZ, er) := by unfold decP; rw [if_neg hb, hit]
    rw [hd]
    refine .inr ⟨_, he, leaves_bad (b2 := b2) (b3 := b3) (by kernel_rfl) H fun w' H => ⟨.tuple #[.agg zItem, .int .i64 er], resN Try.results65 (vs := [.agg zItem, .int .i64 er]) (by simp) ⟨rv_cell (H.blk 0 rfl) (by kernel_rfl) (by kernel_rfl), rv_cell (H.blk 1 rfl) (by kernel_rfl) (by kernel_rfl), trivial⟩, ⟨_, _, rfl, zero_dat (H.take 0)⟩⟩⟩
  | ok q =>
  obtain ⟨x, r⟩ := q
  rw [hit] at he
  obtain ⟨vb, vl, v2, he, hH, hr⟩ := he
  refine .inl ⟨_, he, ?_⟩
  replace H := H.join hH
  clear hH
  simp only at hr H ⊢
  obtain ⟨A2, c2, rfl⟩ := hr.form
  obtain ⟨vb', vl', hcs, ho1, ho2⟩ := item_open 16 (H.kd 0 rfl)
  simp only [List.cons.injEq, and_true, true_and] at hcs
  obtain ⟨rfl, rfl⟩ := hcs
  obtain ⟨Ab, cb, rfl⟩ := ho1.form
  obtain ⟨Ac, cc, rfl⟩ := ho2.form
  clear ho1 ho2
  refine run_st (n := 1) (t := 102) (off := 0) (v := .agg #[.bool x.parts.1, .slice Ab x.parts.2.1.length cb, .slice Ac x.parts.2.2.length cc]) (cs' := #[.bool x.parts.1, .slice Ab x.parts.2.1.length cb, .slice Ac x.parts.2.2.length cc]) H rfl (by kernel_rfl) (by kernel_rfl) (by kernel_rfl) fun wc H => ?_
  refine run_callP (f := 98) (args := #[.bool (decide ((r.length : Int) = 0)), .int .i64 8]) (by kernel_rfl) (by kernel_rfl) pf98 (need98_calls _ 8 _) fun e wc he => ?_
  by_cases h0 : (r.length : Int) = 0
  · rw [if_pos (decide_eq_true h0)] at he
    obtain ⟨he, hw⟩ := he
    subst hw
    refine .inl ⟨_, he, ?_⟩
    have hd : decP b = (x, 0) := by unfold decP; rw [if_neg hb, hit]; simp only; rw [if_pos (by omega)]
    rw [hd]
    refine run_ld (n := 1) (t := 102) (off := 0) (v := .agg #[.bool x.parts.1, .slice Ab x.parts.2.1.length cb, .slice Ac x.parts.2.2.length cc]) H rfl (by kernel_rfl) (by kernel_rfl) (by kernel_rfl) ?_
    refine run_st (n := 1) (t := 102) (off := 0) (v := .agg #[.bool x.parts.1, .slice Ab x.parts.2.1.length cb, .slice Ac x.parts.2.2.length cc]) (cs' := #[.bool x.parts.1, .slice Ab x.parts.2.1.length cb, .slice Ac x.parts.2.2.length cc]) H rfl (by kernel_rfl) (by kernel_rfl) (by kernel_rfl) fun wc H => ?_
    refine run_st (n := 2) (t := 33) (off := 0) (v := .int .i64 0) (cs' := #[.int .i64 0]) H rfl (by kernel_rfl) (by kernel_rfl) (by kernel_rfl) fun wc H => ?_
    exact run_endL (by kernel_rfl) (leaves_ok (b2 := b2) (b3 := b3) (by kernel_rfl) H fun w' H => ⟨.tuple #[.agg #[.bool x.parts.1, .slice Ab x.parts.2.1.length cb, .slice Ac x.parts.2.2.length cc], .int .i64 0], resN Try.results65 (vs := [.agg #[.bool x.parts.1, .slice Ab x.parts.2.1.length cb, .slice Ac x.parts.2.2.length cc], .int .i64 0]) (by simp) ⟨rv_cell (H.blk 1 rfl) (by kernel_rfl) (by kernel_rfl), rv_cell (H.blk 2 rfl) (by kernel_rfl) (by kernel_rfl), trivial⟩, ⟨_, _, rfl, H.take 1⟩⟩)
  · rw [if_neg (by simpa using h0)] at he
    obtain ⟨he, hE⟩ := he
    replace H := H.ext hE
    have hd : decP b = (itemZ, 8) := by unfold decP; rw [if_neg hb, hit]; simp only; rw [if_neg (by omega)]
    rw [hd]
    have H := (H.pick 1 rfl).pick 2 rfl
    have H := H.swap
    refine .inr ⟨_, he, leaves_bad (b2 := b2) (b3 := b3) (by kernel_rfl) H fun w' H => ⟨.tuple #[.agg zItem, .int .i64 8], resN Try.results65 (vs := [.agg zItem, .int .i64 8]) (by simp) ⟨rv_cell (H.blk 0 rfl) (by kernel_rfl) (by kernel_rfl), rv_cell (H.blk 1 rfl) (by kernel_rfl) (by kernel_rfl), trivial⟩, ⟨_, _, rfl, zero_dat (H.take 0)⟩⟩⟩
end Go.Proofs.Ythmajhdemooecaa

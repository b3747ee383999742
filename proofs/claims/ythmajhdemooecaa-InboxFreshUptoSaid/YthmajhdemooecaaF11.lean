/- The walk of Decode: a deferred call that recovers. -/
import Derived.Test.YthmajhdemooecaaF10
import Derived.Test.YthmajhdemooecaaXA
namespace Go.Proofs.Ythmajhdemooecaa
open Go.PM Go.RowKit
set_option linter.unusedVariables false
set_option linter.unusedSimpArgs false
set_option linter.unnecessarySimpa false
attribute [local irreducible] adv advD advF fuel

theorem item97_calls : ∀ (lv : Nat), lv ≤ 16 → ItemC lv
  | 0, h => item97_step 0 h fun n hn => by cases hn
  | n + 1, h => item97_step (n + 1) h fun m hm => by
    have : m = n := by omega
    subst this
    exact @item97_calls m (by omega)

noncomputable def bd96 : Code := Try.f96.body.getD .skip
def seqL : Code → Code | .seq x _ => x | _ => .skip
def seqR : Code → Code | .seq _ y => y | _ => .skip
def regO : Code → Array Oper | .region _ ops _ => ops | _ => #[]
def regI : Code → Nat | .region i _ _ => i | _ => 0
theorem body96 : Try.f96.body = some (.seq (.region (regI (seqL bd96)) (regO (seqL bd96)) false) (seqR bd96)) := by kernel_rfl

def zItem : Array Value := #[.bool false, .slice none 0 0, .slice none 0 0]



theorem rec96 {b2 b3 : Nat} {Q : Exit → Act → List Frame → World → Prop} {cs : List Frame} {w : World}
    (h : ∀ v cs', (recoverD cs = some (v, cs') ∨ (recoverD cs = none ∧ v = .nilIface ∧ cs' = cs)) → (seqR bd96).wpS Try.prog Q { tmps := (#[.pointer (some ⟨b2, 0, none⟩), .pointer (some ⟨b3, 0, none⟩), v, undef, undef, v] ++ Array.replicate 13 undef), defers := [] } cs' w) :
    (Code.seq (.region (regI (seqL bd96)) (regO (seqL bd96)) false) (seqR bd96)).wpS Try.prog Q { tmps := #[.pointer (some ⟨b2, 0, none⟩), .pointer (some ⟨b3, 0, none⟩)] ++ Array.replicate (Try.f96.ntmps - 2) undef, defers := [] } cs w := by
  refine wpS_seq (wpS_region ?_)
  have hr : List.range (regO (seqL bd96)).size = [0, 1] := by kernel_rfl
  rw [hr]
  refine wpOpsS_recover (o := (regO (seqL bd96)).getD 0 default) (by kernel_rfl) (by kernel_rfl) (by kernel_rfl) fun v cs' hc => ?_
  refine wpOpsS_calm (a' := { tmps := (#[.pointer (some ⟨b2, 0, none⟩), .pointer (some ⟨b3, 0, none⟩), v, undef, undef, v] ++ Array.replicate 13 undef), defers := [] }) (by kernel_rfl) ?_
  exact h v cs' hc

set_option maxHeartbeats 1000000 in
/-- Nobody panics: nothing is done. -/
theorem leave96 {w0 w : World} {L : List Ck} {b2 b3 : Nat} (H : HS w0 w L) :
    CallsD Try.prog 96 #[.pointer (some ⟨b2, 0, none⟩), .pointer (some ⟨b3, 0, none⟩)] .returning w fun e u' w' => (∃ v, e = .returned v) ∧ u' = .returning ∧ HS w0 w' L := by
  refine callsD_of_wpS Try.func96 body96 fun c₀ cs hu => rec96 fun v cs' hc => ?_
  obtain ⟨rfl, rfl⟩ : v = .nilIface ∧ cs' = c₀ :: cs := by
    rcases hc with hc | hc
    · simp [recoverD, hu] at hc
    · exact hc.2
  refine wpS_of_wp (wp_of_run (run_adv fuel ?_))
  refine run_cond (t := true) (by kernel_rfl) (by kernel_rfl) (fun _ => ?_) (fun h => by cases h)
  exact run_end (by kernel_rfl) ⟨(by kernel_rfl), .returning, by rw [← hu], .tuple #[], res0 (by kernel_rfl), ⟨_, rfl⟩, rfl, H⟩ ⟨(by kernel_rfl), .returning, by rw [← hu], .tuple #[], res0 (by kernel_rfl), ⟨_, rfl⟩, rfl, H⟩

set_option maxHeartbeats 1000000 in
/-- A form was given up: the error is told. -/
theorem catch96 {w0 w : World} {L : List Ck} {b2 b3 : Nat} {v20 v21 v22 v30 : Value} {er : Int} (H : HS w0 w (Ck.blk b2 102 #[v20, v21, v22] :: Ck.blk b3 33 #[v30] :: L)) :
    CallsD Try.prog 96 #[.pointer (some ⟨b2, 0, none⟩), .pointer (some ⟨b3, 0, none⟩)] (.panicking (wrongC er)) w fun e u' w' => (∃ v, e = .returned v) ∧ settle u' = .returning ∧ HS w0 w' (Ck.blk b2 102 zItem :: Ck.blk b3 33 #[.int .i64 er] :: L) := by
  refine callsD_of_wpS Try.func96 body96 fun c₀ cs hu => rec96 fun v cs' hc => ?_
  obtain ⟨rfl, rfl⟩ : v = .iface 153 (.agg #[.int .i64 er]) ∧ cs' = { c₀ with mode := .panicking [{ v := .iface 153 (.agg #[.int .i64 er]), recovered := true }] } :: cs := by
    rcases hc with hc | hc
    · simp [recoverD, hu, wrongC] at hc
      exact ⟨hc.1.symm, hc.2.symm⟩
    · simp [recoverD, hu, wrongC] at hc
  refine wpS_of_wp (wp_of_run (run_adv fuel ?_))
  refine run_cond (t := false) (by kernel_rfl) (by kernel_rfl) (fun h => by cases h) (fun _ => ?_)
  refine run_lit (.tuple #[.agg #[.int .i64 er], .bool true]) (by kernel_rfl) (by kernel_rfl) ?_
  refine run_alloc (t := 153) (v := .agg #[.int .i64 0]) H (by kernel_rfl) (by kernel_rfl) fun b4 wc H => ?_
  refine run_st (n := 0) (t := 153) (off := 0) (v := .agg #[.int .i64 er]) (cs' := #[.int .i64 er]) H rfl (by kernel_rfl) (by kernel_rfl) (by kernel_rfl) fun wc H => ?_
  refine run_cond (t := false) (by kernel_rfl) (by kernel_rfl) (fun h => by cases h) (fun _ => ?_)
  have hst2 : ∀ (x : Unit), stv Try.prog 102 #[v20, v21, v22] 0 (.agg zItem) = some zItem := fun _ => (by kernel_rfl)
  have hst3 : ∀ (x : Unit), stv Try.prog 33 #[v30] 0 (.int .i64 er) = some #[.int .i64 er] := fun _ => (by kernel_rfl)
  refine run_any follows (by kernel_rfl) fun wD hE => ?_
  replace H := H.ext hE
  refine any_two (i := 0) (j := 1) (fuel' := 4) (by kernel_rfl) (by kernel_rfl) ?_ ?_
  · refine any_lit (.agg zItem) (by kernel_rfl) (by kernel_rfl) (by kernel_rfl) ?_
    refine any_two (i := 1) (j := 3) (fuel' := 3) (by kernel_rfl) (by kernel_rfl) ?_ ?_
    · refine any_lit (.pointer (some ⟨b4, 0, none⟩)) (by kernel_rfl) (by kernel_rfl) (by kernel_rfl) ?_
      refine any_two (i := 2) (j := 3) (fuel' := 2) (by kernel_rfl) (by kernel_rfl) ?_ ?_
      · refine any_val (v := .int .i64 er) (by kernel_rfl) (by kernel_rfl) (op_load (t := 33) (b := b4) (off := 0) (by kernel_rfl) (run_loadVar_blk (H.blk 0 rfl) (by kernel_rfl))) ?_
        refine any_one (i := 3) (fuel' := 1) (by kernel_rfl) (by kernel_rfl) ?_
        refine any_unit (by kernel_rfl) (by kernel_rfl) (op_store (t := 102) (v := .agg zItem) (cs' := zItem) (by kernel_rfl) (H.blk 1 rfl) (hst2 ())) ?_
        have H3 := H.putU 1 rfl zItem
        refine any_one (i := 4) (fuel' := 0) (by kernel_rfl) (by kernel_rfl) ?_
        refine any_unit (by kernel_rfl) (by kernel_rfl) (op_store (t := 33) (v := .int .i64 er) (cs' := #[.int .i64 er]) (by kernel_rfl) (H3.blk 2 rfl) (hst3 ())) ?_
        have H4 := H3.putU 2 rfl #[.int .i64 er]
        exact ⟨(by kernel_rfl), run_adv fuel (run_end (by kernel_rfl) ⟨(by kernel_rfl), _, rfl, .tuple #[], res0 (by kernel_rfl), ⟨_, rfl⟩, rfl, H4.drop⟩ ⟨(by kernel_rfl), _, rfl, .tuple #[], res0 (by kernel_rfl), ⟨_, rfl⟩, rfl, H4.drop⟩)⟩
      · refine any_unit (by kernel_rfl) (by kernel_rfl) (op_store (t := 102) (v := .agg zItem) (cs' := zItem) (by kernel_rfl) (H.blk 1 rfl) (hst2 ())) ?_
        have H3 := H.putU 1 rfl zItem
        refine any_one (i := 2) (fuel' := 1) (by kernel_rfl) (by kernel_rfl) ?_
        refine any_val (v := .int .i64 er) (by kernel_rfl) (by kernel_rfl) (op_load (t := 33) (b := b4) (off := 0) (by kernel_rfl) (run_loadVar_blk (H3.blk 0 rfl) (by kernel_rfl))) ?_
        refine any_one (i := 4) (fuel' := 0) (by kernel_rfl) (by kernel_rfl) ?_
        refine any_unit (by kernel_rfl) (by kernel_rfl) (op_store (t := 33) (v := .int .i64 er) (cs' := #[.int .i64 er]) (by kernel_rfl) (H3.blk 2 rfl) (hst3 ())) ?_
        have H4 := H3.putU 2 rfl #[.int .i64 er]
        exact ⟨(by kernel_rfl), run_adv fuel (run_end (by kernel_rfl) ⟨(by kernel_rfl), _, rfl, .tuple #[], res0 (by kernel_rfl), ⟨_, rfl⟩, rfl, H4.drop⟩ ⟨(by kernel_rfl), _, rfl, .tuple #[], res0 (by kernel_rfl), ⟨_, rfl⟩, rfl, H4.drop⟩)⟩
    · refine any_unit (by kernel_rfl) (by kernel_rfl) (op_store (t := 102) (v := .agg zItem) (cs' := zItem) (by kernel_rfl) (H.blk 1 rfl) (hst2 ())) ?_
      have H3 := H.putU 1 rfl zItem
      refine any_one (i := 1) (fuel' := 2) (by kernel_rfl) (by kernel_rfl) ?_
      refine any_lit (.pointer (some ⟨b4, 0, none⟩)) (by kernel_rfl) (by kernel_rfl) (by kernel_rfl) ?_
      refine any_one (i := 2) (fuel' := 1) (by kernel_rfl) (by kernel_rfl) ?_
      refine any_val (v := .int .i64 er) (by kernel_rfl) (by kernel_rfl) (op_load (t := 33) (b := b4) (off := 0) (by kernel_rfl) (run_loadVar_blk (H3.blk 0 rfl) (by kernel_rfl))) ?_
      refine any_one (i := 4) (fuel' := 0) (by kernel_rfl) (by kernel_rfl) ?_
      refine any_unit (by kernel_rfl) (by kernel_rfl) (op_store (t := 33) (v := .int .i64 er) (cs' := #[.int .i64 er]) (by kernel_rfl) (H3.blk 2 rfl) (hst3 ())) ?_
      have H4 := H3.putU 2 rfl #[.int .i64 er]
      exact ⟨(by kernel_rfl), run_adv fuel (run_end (by kernel_rfl) ⟨(by kernel_rfl), _, rfl, .tuple #[], res0 (by kernel_rfl), ⟨_, rfl⟩, rfl, H4.drop⟩ ⟨(by kernel_rfl), _, rfl, .tuple #[], res0 (by kernel_rfl), ⟨_, rfl⟩, rfl, H4.drop⟩)⟩
  · refine any_lit (.pointer (some ⟨b4, 0, none⟩)) (by kernel_rfl) (by kernel_rfl) (by kernel_rfl) ?_
    refine any_two (i := 0) (j := 2) (fuel' := 3) (by kernel_rfl) (by kernel_rfl) ?_ ?_
    · refine any_lit (.agg zItem) (by kernel_rfl) (by kernel_rfl) (by kernel_rfl) ?_
      refine any_two (i := 2) (j := 3) (fuel' := 2) (by kernel_rfl) (by kernel_rfl) ?_ ?_
      · refine any_val (v := .int .i64 er) (by kernel_rfl) (by kernel_rfl) (op_load (t := 33) (b := b4) (off := 0) (by kernel_rfl) (run_loadVar_blk (H.blk 0 rfl) (by kernel_rfl))) ?_
        refine any_one (i := 3) (fuel' := 1) (by kernel_rfl) (by kernel_rfl) ?_
        refine any_unit (by kernel_rfl) (by kernel_rfl) (op_store (t := 102) (v := .agg zItem) (cs' := zItem) (by kernel_rfl) (H.blk 1 rfl) (hst2 ())) ?_
        have H3 := H.putU 1 rfl zItem
        refine any_one (i := 4) (fuel' := 0) (by kernel_rfl) (by kernel_rfl) ?_
        refine any_unit (by kernel_rfl) (by kernel_rfl) (op_store (t := 33) (v := .int .i64 er) (cs' := #[.int .i64 er]) (by kernel_rfl) (H3.blk 2 rfl) (hst3 ())) ?_
        have H4 := H3.putU 2 rfl #[.int .i64 er]
        exact ⟨(by kernel_rfl), run_adv fuel (run_end (by kernel_rfl) ⟨(by kernel_rfl), _, rfl, .tuple #[], res0 (by kernel_rfl), ⟨_, rfl⟩, rfl, H4.drop⟩ ⟨(by kernel_rfl), _, rfl, .tuple #[], res0 (by kernel_rfl), ⟨_, rfl⟩, rfl, H4.drop⟩)⟩
      · refine any_unit (by kernel_rfl) (by kernel_rfl) (op_store (t := 102) (v := .agg zItem) (cs' := zItem) (by kernel_rfl) (H.blk 1 rfl) (hst2 ())) ?_
        have H3 := H.putU 1 rfl zItem
        refine any_one (i := 2) (fuel' := 1) (by kernel_rfl) (by kernel_rfl) ?_
        refine any_val (v := .int .i64 er) (by kernel_rfl) (by kernel_rfl) (op_load (t := 33) (b := b4) (off := 0) (by kernel_rfl) (run_loadVar_blk (H3.blk 0 rfl) (by kernel_rfl))) ?_
        refine any_one (i := 4) (fuel' := 0) (by kernel_rfl) (by kernel_rfl) ?_
        refine any_unit (by kernel_rfl) (by kernel_rfl) (op_store (t := 33) (v := .int .i64 er) (cs' := #[.int .i64 er]) (by kernel_rfl) (H3.blk 2 rfl) (hst3 ())) ?_
        have H4 := H3.putU 2 rfl #[.int .i64 er]
        exact ⟨(by kernel_rfl), run_adv fuel (run_end (by kernel_rfl) ⟨(by kernel_rfl), _, rfl, .tuple #[], res0 (by kernel_rfl), ⟨_, rfl⟩, rfl, H4.drop⟩ ⟨(by kernel_rfl), _, rfl, .tuple #[], res0 (by kernel_rfl), ⟨_, rfl⟩, rfl, H4.drop⟩)⟩
    · refine any_val (v := .int .i64 er) (by kernel_rfl) (by kernel_rfl) (op_load (t := 33) (b := b4) (off := 0) (by kernel_rfl) (run_loadVar_blk (H.blk 0 rfl) (by kernel_rfl))) ?_
      refine any_one (i := 0) (fuel' := 2) (by kernel_rfl) (by kernel_rfl) ?_
      refine any_lit (.agg zItem) (by kernel_rfl) (by kernel_rfl) (by kernel_rfl) ?_
      refine any_one (i := 3) (fuel' := 1) (by kernel_rfl) (by kernel_rfl) ?_
      refine any_unit (by kernel_rfl) (by kernel_rfl) (op_store (t := 102) (v := .agg zItem) (cs' := zItem) (by kernel_rfl) (H.blk 1 rfl) (hst2 ())) ?_
      have H3 := H.putU 1 rfl zItem
      refine any_one (i := 4) (fuel' := 0) (by kernel_rfl) (by kernel_rfl) ?_
      refine any_unit (by kernel_rfl) (by kernel_rfl) (op_store (t := 33) (v := .int .i64 er) (cs' := #[.int .i64 er]) (by kernel_rfl) (H3.blk 2 rfl) (hst3 ())) ?_
      have H4 := H3.putU 2 rfl #[.int .i64 er]
      exact ⟨(by kernel_rfl), run_adv fuel (run_end (by kernel_rfl) ⟨(by kernel_rfl), _, rfl, .tuple #[], res0 (by kernel_rfl), ⟨_, rfl⟩, rfl, H4.drop⟩ ⟨(by kernel_rfl), _, rfl, .tuple #[], res0 (by kernel_rfl), ⟨_, rfl⟩, rfl, H4.drop⟩)⟩
end Go.Proofs.Ythmajhdemooecaa

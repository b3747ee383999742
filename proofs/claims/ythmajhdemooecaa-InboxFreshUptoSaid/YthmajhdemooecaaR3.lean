/- InboxFresh: for every input of bulk at most 1048576 the law answers true, and its arguments read as before. -/
import Derived.Test.YthmajhdemooecaaG1
import Derived.Test.YthmajhdemooecaaF26
namespace Go.Proofs.Ythmajhdemooecaa
open Go.PM Go.RowKit Go.ChangeShapes
set_option linter.unusedVariables false
set_option linter.unusedSimpArgs false
set_option linter.unnecessarySimpa false

set_option maxRecDepth 100000 in
theorem fresh_contract (H : Type) (enc : TypeId × Value → H) (W : World) (base : Nat) (args : Array Value) (ds gs : List (DataW H)) (before : List MemPlace)
    (hval : ∀ (j : Nat) t v, Try.f5.params[j]? = some t → args[j]? = some v → Value.okWide Try.prog W .any base t v)
    (hW : DataW.Whole enc Try.prog Try.f5.params.toList Rows.inboxFreshSpec.vars false W args.toList ds gs before) (hk : Rows.uptoSmall H (ds ++ gs) = true) :
    Calls Try.prog 5 args W fun e W' => ∃ v, e = .returned v ∧ Rows.inboxFreshSpec.post enc Try.prog Try.f5 false true false false W args v W' := by
  have hW' := hW
  obtain ⟨p, q, hA, hV, rfl, -, -⟩ := hW
  rw [Try.params5] at hA hval
  obtain ⟨v0, v1, d0, d1, p0, p1, rfl, rfl, rfl, h0, h1⟩ := trodAll_two hA
  obtain ⟨rfl, rfl⟩ := trodVars_none hV
  have k0 : Value.okWide Try.prog W .any base 26 v0 := hval 0 26 v0 (by kernel_rfl) (by kernel_rfl)
  have k1 : Value.okWide Try.prog W .any base 29 v1 := hval 1 29 v1 (by kernel_rfl) (by kernel_rfl)
  clear hval
  obtain ⟨cs0, x, rfl, hx, bx⟩ := arg_struct opens26 Try.underlying26 k0 h0
  obtain ⟨cs1, a, rfl, ha, ba⟩ := arg_struct opens29 Try.underlying29 k1 h1
  obtain ⟨vq, vl, rfl, hx, -, -⟩ := inbox_arg hx (Nat.le_trans bx (small_of hk (by simp)))
  obtain ⟨vm, rfl, hm, nm, hab, -, -⟩ := ask_arg ha (Nat.le_trans ba (small_of hk (by simp)))
  refine (fresh5_calls hx hm (by unfold small; omega) hab).mono fun e W' ⟨he, hE⟩ => ?_
  subst he
  exact ⟨_, rfl, law_post laid_try (by rw [Try.params5]; intro t ht; simp at ht; rcases ht with rfl | rfl <;> exact ⟨by kernel_rfl, of_decide_eq_true (by kernel_rfl)⟩) rfl rfl Try.underlying4 rfl hW' hE⟩

set_option maxRecDepth 100000 in
theorem fresh_lifted (os : Os) (started : os.Started) (H : Type) (enc : TypeId × Value → H) (F : Stop.Interp) :
    ReturnsInHanded {} Try.checked os 5 .any ((Rows.OpenSpec.upto Rows.inboxFreshSpec).pre6 enc Try.prog Try.f5 Rows.inboxFreshUptoRow.domain false) (((Rows.OpenSpec.upto Rows.inboxFreshSpec).at F).post enc Try.prog Try.f5 false true false false) := by
  refine returnsInHanded_of_cond (C := Try.checked) (s := Rows.OpenSpec.upto Rows.inboxFreshSpec) (k := Rows.uptoSmall) rfl own_try started (by kernel_rfl) Try.func5
    (OpenSpec.witness (enc := enc) (C := Try.checked) (s := Rows.OpenSpec.upto Rows.inboxFreshSpec) (k := Rows.uptoSmall) rfl false ⟨#[], #[.agg #[.slice none 0 0, .int .i64 0, .slice none 0 0, .int .u64 0], .agg #[.int .i64 0, .slice none 0 0, .int .u64 0, .int .u64 0]], []⟩ 8 (by kernel_rfl) (by kernel_rfl) (by kernel_rfl)
      (x := ([.agg [.nil, .lit (.int .i64 0), .nil, .lit (.int .u64 0)], .agg [.lit (.int .i64 0), .nil, .lit (.int .u64 0), .lit (.int .u64 0)]], [], [])) (by kernel_rfl) rfl (by kernel_rfl)) ?_
  intro W base args ds gs before hval hW _ hk _
  exact fresh_contract H enc W base args ds gs before hval hW hk

/-- WHATEVER THE INPUT (of bulk at most 1048576): what is handed in stays; what is answered is new memory. -/
theorem inboxFresh_holds : Rows.InboxFreshUptoSaid :=
  OpenClaim.holds_of_cond 5 Try.f5 rfl rfl rfl rfl rfl rfl rfl ⟨rfl, rfl, rfl, rfl, rfl⟩ rfl rfl rfl rfl rfl (by kernel_rfl) Try.func5 (by kernel_rfl)
    (of_decide_eq_true (by kernel_rfl)) (by unfold Func.isWrapper; first | (rw [if_pos (by decide +kernel)]; kernel_rfl) | (rw [if_neg (by decide +kernel)]; exact ⟨rfl, rfl⟩))
    (fun os started H enc _ F => fresh_lifted os started H enc F)
#print axioms inboxFresh_holds
end Go.Proofs.Ythmajhdemooecaa

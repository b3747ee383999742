/- The walks of the small functions. -/
import Derived.Test.YthmajhdemooecaaX4
import Derived.Test.YthmajhdemooecaaProg
namespace Go.Proofs.Ythmajhdemooecaa
open Go.PM Go.RowKit
set_option linter.unusedVariables false
attribute [local irreducible] adv advD fuel

theorem follows : Try.prog.follows .mixedOrders = true := by kernel_rfl
theorem row27 : chkRow Try.prog 27 5 1 = true := by kernel_rfl

theorem short_calls (A : Option Addr) (n c : Nat) (w : World) : Calls Try.prog 40 #[.slice A n c] w fun e w' => e = .returned (.bool (decide ((n : Int) ≤ 65536))) ∧ w' = w := by
  refine calls_run Try.func40 (by kernel_rfl) ?_
  exact run_ret (v := .bool (decide ((n : Int) ≤ 65536))) (by kernel_rfl) (by kernel_rfl) (by kernel_rfl) ⟨rfl, rfl⟩

theorem bytesClone_calls {xs : List UInt8} {v : Value} {w : World} (hx : Sl Ty.u8 w Any xs v) (hn : xs.length ≤ 137438953472) :
    Calls Try.prog 82 #[v] w fun e w' => ∃ v', e = .returned v' ∧ HS w w' [Ck.own Ty.u8 5 v' xs] := by
  obtain ⟨A, c, rfl⟩ := hx.form
  refine calls_run Try.func82 (by kernel_rfl) ?_
  cases A with
  | none =>
    obtain ⟨A', c', h1, h2, h3, h4, h5⟩ := hx
    injection h1 with h6 h7 h8
    subst h6 h8
    have hc : c = 0 := h4 rfl
    have : xs = [] := List.length_eq_zero_iff.1 (by omega)
    subst this hc
    refine run_cond (t := true) (by kernel_rfl) (by kernel_rfl) (fun _ => ?_) (fun h => by cases h)
    exact run_ret (v := .slice none 0 0) (by kernel_rfl) (by kernel_rfl) (by kernel_rfl) ⟨_, rfl, (HS.refl w).nil _ _⟩
  | some ad =>
    refine run_cond (t := false) (by kernel_rfl) (by kernel_rfl) (fun h => by cases h) (fun _ => ?_)
    refine run_val (v := .slice (some ⟨w.heap.size, 0, none⟩) 0 0) (by kernel_rfl) (op_buildSlice (e := 5) (len := 0) (cells := #[]) (by kernel_rfl)) ?_
    have H := (HS.refl w).made0 Ty.u8 5
    obtain ⟨v', w', hr, H⟩ := H.app_all (Ty.flat_scalar _ _ _) row27 (hx.ext H.below) (by simpa using hn)
    refine run_val (by kernel_rfl) (op_append (s := .slice (some ⟨w.heap.size, 0, none⟩) 0 0) (by kernel_rfl) hr) ?_
    exact run_ret (v := v') (by kernel_rfl) (by kernel_rfl) (by kernel_rfl) ⟨_, rfl, H⟩

end Go.Proofs.Ythmajhdemooecaa

/- Data in memory: kinds, rows that are owned, and what a call holds beside each other. -/
import Derived.Test.YthmajhdemooecaaX2
import Derived.Laws.AppendOwn
import Derived.Laws.OwnMore
import Derived.Laws.MakeOwn
import Derived.Maps.AppendAt
namespace Go.PM
set_option linter.unusedVariables false
set_option linter.unusedSimpArgs false
open Go.RowKit

/-- A kind of data: how its cells stand for it, in the blocks S. -/
structure Ty (α : Type) where
  sz : Nat
  K : World → (Nat → Prop) → α → List Value → Prop
  len : ∀ {w S x cs}, K w S x cs → cs.length = sz
  one : ∀ {w S x cs}, K w S x cs → ∀ v ∈ cs, v.oneCell' = true
  mono : ∀ {w S S' x cs}, K w S x cs → (∀ k, S k → S' k) → K w S' x cs
  loc : ∀ {w w' : World} {S x cs}, K w S x cs → (∀ k, S k → k < w.heap.size → w'.heap[k]? = w.heap[k]?) → K w' S x cs
  trim : ∀ {w S x cs}, K w S x cs → K w (fun k => S k ∧ k < w.heap.size) x cs

def Any : Nat → Prop := fun _ => True

section
variable {α β : Type}

theorem Ty.ext (d : Ty α) {w w' : World} {S : Nat → Prop} {x : α} {cs : List Value} (h : d.K w S x cs) (hE : Ext w w') : d.K w' S x cs := d.loc h fun k _ hk => hE.block k hk
theorem Ty.below (d : Ty α) {w w' : World} {S : Nat → Prop} {x : α} {cs : List Value} (h : d.K w S x cs) (hE : Below w.heap.size w w') : d.K w' S x cs := d.loc h fun k _ hk => hE.block k hk
theorem Ty.any (d : Ty α) {w : World} {S : Nat → Prop} {x : α} {cs : List Value} (h : d.K w S x cs) : d.K w Any x cs := d.mono h fun _ _ => trivial

/-- A row in memory, from place o of block b on. -/
def Row (d : Ty α) (w : World) (S : Nat → Prop) (b o : Nat) (xs : List α) : Prop :=
  ∀ j x, xs[j]? = some x → ∃ cs, d.K w S x cs ∧ ∀ i v, cs[i]? = some v → w.cell? ⟨b, o + j * d.sz + i, none⟩ = some v

theorem cell_same {w w' : World} {b i : Nat} (h : w'.heap[b]? = w.heap[b]?) : w'.cell? ⟨b, i, none⟩ = w.cell? ⟨b, i, none⟩ := by simp [World.cell?, h]
theorem frozen_same {w w' : World} {b i : Nat} (h : w'.heap[b]? = w.heap[b]?) : w'.frozen? ⟨b, i, none⟩ = w.frozen? ⟨b, i, none⟩ := by simp [World.frozen?, h]

theorem Row.mono {d : Ty α} {w : World} {S S' : Nat → Prop} {b o : Nat} {xs : List α} (h : Row d w S b o xs) (hS : ∀ k, S k → S' k) : Row d w S' b o xs := fun j x hj =>
  let ⟨cs, h1, h2⟩ := h j x hj
  ⟨cs, d.mono h1 hS, h2⟩
theorem Row.loc {d : Ty α} {w w' : World} {S : Nat → Prop} {b o : Nat} {xs : List α} (h : Row d w S b o xs) (hb : w'.heap[b]? = w.heap[b]?) (hS : ∀ k, S k → k < w.heap.size → w'.heap[k]? = w.heap[k]?) : Row d w' S b o xs := fun j x hj =>
  let ⟨cs, h1, h2⟩ := h j x hj
  ⟨cs, d.loc h1 hS, fun i v hi => by rw [cell_same hb]; exact h2 i v hi⟩
theorem Row.trim {d : Ty α} {w : World} {S : Nat → Prop} {b o : Nat} {xs : List α} (h : Row d w S b o xs) : Row d w (fun k => S k ∧ k < w.heap.size) b o xs := fun j x hj =>
  let ⟨cs, h1, h2⟩ := h j x hj
  ⟨cs, d.trim h1, h2⟩

/-- The slice v reads as xs. -/
def Sl (d : Ty α) (w : World) (S : Nat → Prop) (xs : List α) (v : Value) : Prop :=
  ∃ A c, v = .slice A xs.length c ∧ xs.length ≤ c ∧ c ≤ maxLen ∧ (A = none → c = 0) ∧ (0 < xs.length → ∃ b o, A = some ⟨b, o, none⟩ ∧ S b ∧ b < w.heap.size ∧ Row d w S b o xs)

theorem Sl.mono {d : Ty α} {w : World} {S S' : Nat → Prop} {xs : List α} {v : Value} (h : Sl d w S xs v) (hS : ∀ k, S k → S' k) : Sl d w S' xs v := by
  obtain ⟨A, c, h1, h2, h3, h4, h5⟩ := h
  exact ⟨A, c, h1, h2, h3, h4, fun h => let ⟨b, o, h6, h7, h8, h9⟩ := h5 h; ⟨b, o, h6, hS _ h7, h8, h9.mono hS⟩⟩
theorem Sl.loc {d : Ty α} {w w' : World} {S : Nat → Prop} {xs : List α} {v : Value} (h : Sl d w S xs v) (hS : ∀ k, S k → k < w.heap.size → w'.heap[k]? = w.heap[k]?) : Sl d w' S xs v := by
  obtain ⟨A, c, h1, h2, h3, h4, h5⟩ := h
  refine ⟨A, c, h1, h2, h3, h4, fun h => ?_⟩
  obtain ⟨b, o, h6, h7, h8, h9⟩ := h5 h
  have hb := hS b h7 h8
  refine ⟨b, o, h6, h7, ?_, h9.loc hb hS⟩
  rcases Nat.lt_or_ge b w'.heap.size with h | h
  · exact h
  · rw [Array.getElem?_eq_none h, Array.getElem?_eq_getElem h8] at hb
    cases hb
theorem Sl.trim {d : Ty α} {w : World} {S : Nat → Prop} {xs : List α} {v : Value} (h : Sl d w S xs v) : Sl d w (fun k => S k ∧ k < w.heap.size) xs v := by
  obtain ⟨A, c, h1, h2, h3, h4, h5⟩ := h
  exact ⟨A, c, h1, h2, h3, h4, fun h => let ⟨b, o, h6, h7, h8, h9⟩ := h5 h; ⟨b, o, h6, ⟨h7, h8⟩, h8, h9.trim⟩⟩
theorem Sl.any {d : Ty α} {w : World} {S : Nat → Prop} {xs : List α} {v : Value} (h : Sl d w S xs v) : Sl d w Any xs v := h.mono fun _ _ => trivial
theorem Sl.ext {d : Ty α} {w w' : World} {S : Nat → Prop} {xs : List α} {v : Value} (h : Sl d w S xs v) (hE : Ext w w') : Sl d w' S xs v := h.loc fun k _ hk => hE.block k hk
theorem Sl.nil (d : Ty α) (w : World) (S : Nat → Prop) : Sl d w S [] (.slice none 0 0) := ⟨none, 0, rfl, Nat.le_refl _, by simp [maxLen], fun _ => rfl, fun h => absurd h (by simp)⟩

/-- An element of a slice. -/
theorem Sl.get {d : Ty α} {w : World} {S : Nat → Prop} {xs : List α} {A : Option Addr} {n c : Nat} (h : Sl d w S xs (.slice A n c)) {j : Nat} {x : α} (hj : xs[j]? = some x) :
    ∃ b o cs, A = some ⟨b, o, none⟩ ∧ d.K w S x cs ∧ ∀ i v, cs[i]? = some v → w.cell? ⟨b, o + j * d.sz + i, none⟩ = some v := by
  obtain ⟨A', c', h1, h2, h3, h4, h5⟩ := h
  injection h1 with h1 _ _
  subst h1
  have hlt : 0 < xs.length := by have := (List.getElem?_eq_some_iff.1 hj).1; omega
  obtain ⟨b, o, h6, h7, h8, h9⟩ := h5 hlt
  obtain ⟨cs, h10, h11⟩ := h9 j x hj
  exact ⟨b, o, cs, h6, h10, h11⟩
theorem Sl.len {d : Ty α} {w : World} {S : Nat → Prop} {xs : List α} {A : Option Addr} {n c : Nat} (h : Sl d w S xs (.slice A n c)) : n = xs.length ∧ n ≤ c ∧ c ≤ maxLen := by
  obtain ⟨A', c', h1, h2, h3, h4, h5⟩ := h
  injection h1 with h1 h1' h1''
  subst h1 h1' h1''
  exact ⟨rfl, h2, h3⟩
theorem Sl.form {d : Ty α} {w : World} {S : Nat → Prop} {xs : List α} {v : Value} (h : Sl d w S xs v) : ∃ A c, v = .slice A xs.length c := by
  obtain ⟨A, c, h1, _⟩ := h; exact ⟨A, c, h1⟩

namespace Ty
def scalar (enc : α → Value) (h1 : ∀ x, (enc x).oneCell' = true) (ok : α → Prop) : Ty α where
  sz := 1
  K := fun _ _ x cs => cs = [enc x] ∧ ok x
  len := fun h => by rw [h.1]; rfl
  one := fun h v hv => by rw [h.1, List.mem_singleton] at hv; rw [hv]; exact h1 _
  mono := fun h _ => h
  loc := fun h _ => h
  trim := fun h => h
def int (k : IntKind) : Ty Int := scalar (Value.int k) (fun _ => rfl) (fun x => k.wrap x = x)
def bool : Ty Bool := scalar Value.bool (fun _ => rfl) (fun _ => True)
def u8 : Ty UInt8 := scalar (fun b => Value.int .u8 (b.toNat : Int)) (fun _ => rfl) (fun _ => True)
def slice (d : Ty α) : Ty (List α) where
  sz := 1
  K := fun w S xs cs => ∃ v, cs = [v] ∧ Sl d w S xs v
  len := fun ⟨v, h, _⟩ => by rw [h]; rfl
  one := fun ⟨v, h, h2⟩ u hu => by
    obtain ⟨A, c, h3⟩ := h2.form
    rw [h, List.mem_singleton] at hu
    rw [hu, h3]; rfl
  mono := fun ⟨v, h, h2⟩ hS => ⟨v, h, h2.mono hS⟩
  loc := fun ⟨v, h, h2⟩ hS => ⟨v, h, h2.loc hS⟩
  trim := fun ⟨v, h, h2⟩ => ⟨v, h, h2.trim⟩
def pair (a : Ty α) (b : Ty β) : Ty (α × β) where
  sz := a.sz + b.sz
  K := fun w S x cs => ∃ c1 c2, cs = c1 ++ c2 ∧ a.K w S x.1 c1 ∧ b.K w S x.2 c2
  len := fun ⟨c1, c2, h, h1, h2⟩ => by rw [h, List.length_append, a.len h1, b.len h2]
  one := fun ⟨c1, c2, h, h1, h2⟩ v hv => by
    rw [h, List.mem_append] at hv
    rcases hv with hv | hv
    · exact a.one h1 v hv
    · exact b.one h2 v hv
  mono := fun ⟨c1, c2, h, h1, h2⟩ hS => ⟨c1, c2, h, a.mono h1 hS, b.mono h2 hS⟩
  loc := fun ⟨c1, c2, h, h1, h2⟩ hS => ⟨c1, c2, h, a.loc h1 hS, b.loc h2 hS⟩
  trim := fun ⟨c1, c2, h, h1, h2⟩ => ⟨c1, c2, h, a.trim h1, b.trim h2⟩
def iso (d : Ty α) (f : β → α) : Ty β where
  sz := d.sz
  K := fun w S x cs => d.K w S (f x) cs
  len := d.len
  one := d.one
  mono := d.mono
  loc := d.loc
  trim := d.trim
end Ty

/-! ### what is owned -/

/-- A piece of memory of the call's own. -/
structure Ck where
  h : World → (Nat → Prop) → Prop
  loc : ∀ {w w' : World} {S}, h w S → (∀ k, S k → k < w.heap.size → w'.heap[k]? = w.heap[k]?) → h w' S
  trim : ∀ {w S}, h w S → h w (fun k => S k ∧ k < w.heap.size)

/-- Pieces that share no block, all of them among the blocks U. -/
def Sep (w : World) : (Nat → Prop) → List Ck → Prop
  | _, [] => True
  | U, c :: L => ∃ S, c.h w S ∧ (∀ k, S k → U k) ∧ Sep w (fun k => U k ∧ ¬ S k) L

theorem Sep.mono {w : World} : ∀ {L : List Ck} {U U' : Nat → Prop}, Sep w U L → (∀ k, U k → U' k) → Sep w U' L
  | [], _, _, _, _ => trivial
  | _ :: _, _, _, ⟨S, h1, h2, h3⟩, hU => ⟨S, h1, fun k hk => hU k (h2 k hk), Sep.mono h3 fun k hk => ⟨hU k hk.1, hk.2⟩⟩

theorem Sep.keep {w w' : World} : ∀ {L : List Ck} {U : Nat → Prop}, Sep w U L → (∀ k, U k → k < w.heap.size → w'.heap[k]? = w.heap[k]?) → Sep w' U L
  | [], _, _, _ => trivial
  | c :: _, _, ⟨S, h1, h2, h3⟩, hU => ⟨S, c.loc h1 fun k hk hl => hU k (h2 k hk) hl, h2, Sep.keep h3 fun k hk hl => hU k hk.1 hl⟩

theorem Sep.trim {w : World} : ∀ {L : List Ck} {U : Nat → Prop}, Sep w U L → Sep w (fun k => U k ∧ k < w.heap.size) L
  | [], _, _ => trivial
  | c :: _, _, ⟨S, h1, h2, h3⟩ => ⟨_, c.trim h1, fun k hk => ⟨h2 k hk.1, hk.2⟩, Sep.mono (Sep.trim h3) fun k hk => ⟨⟨hk.1.1, hk.2⟩, fun hs => hk.1.2 hs.1⟩⟩

theorem Sep.append {w : World} : ∀ {L L' : List Ck} {U V : Nat → Prop}, Sep w U L → Sep w V L' → (∀ k, U k → ¬ V k) → Sep w (fun k => U k ∨ V k) (L ++ L')
  | [], _, _, _, _, h', _ => Sep.mono h' fun _ hk => .inr hk
  | c :: L, L', U, V, ⟨S, h1, h2, h3⟩, h', hd =>
    ⟨S, h1, fun k hk => .inl (h2 k hk), Sep.mono (Sep.append (L := L) (L' := L') h3 h' fun k hk => hd k hk.1) fun k hk => by
      rcases hk with hk | hk
      · exact ⟨.inl hk.1, hk.2⟩
      · exact ⟨.inr hk, fun hs => hd k (h2 k hs) hk⟩⟩

theorem Sep.swap {w : World} {U : Nat → Prop} {c c' : Ck} {L : List Ck} (h : Sep w U (c :: c' :: L)) : Sep w U (c' :: c :: L) := by
  obtain ⟨S, h1, h2, S', h3, h4, h5⟩ := h
  exact ⟨S', h3, fun k hk => (h4 k hk).1, S, h1, fun k hk => ⟨h2 k hk, fun hs => (h4 k hs).2 hk⟩, Sep.mono h5 fun k hk => ⟨⟨hk.1.1, hk.2⟩, hk.1.2⟩⟩

theorem Sep.pick {w : World} : ∀ (n : Nat) {L : List Ck} {U : Nat → Prop} {c : Ck}, L[n]? = some c → Sep w U L → Sep w U (c :: L.eraseIdx n)
  | _, [], _, _, hn, _ => by simp at hn
  | 0, c :: L, U, c', hn, h => by simp at hn; subst hn; exact h
  | n + 1, c :: L, U, c', hn, h => by
    obtain ⟨S, h1, h2, h3⟩ := h
    have := Sep.pick n (by simpa using hn) h3
    have h4 : Sep w U (c :: c' :: L.eraseIdx n) := ⟨S, h1, h2, this⟩
    exact Sep.swap h4

/-- What a call that began in w0 holds in w: old memory is as it was, and these pieces are its own. -/
def HS (w0 w : World) (L : List Ck) : Prop := Below w0.heap.size w0 w ∧ Sep w (fun k => w0.heap.size ≤ k) L

theorem HS.refl (w : World) : HS w w [] := ⟨Below.refl _ _, trivial⟩
theorem HS.below {w0 w : World} {L : List Ck} (h : HS w0 w L) : Ext w0 w := h.1
theorem HS.size {w0 w : World} {L : List Ck} (h : HS w0 w L) : w0.heap.size ≤ w.heap.size := h.1.size
theorem HS.ext {w0 w w' : World} {L : List Ck} (h : HS w0 w L) (hE : Ext w w') : HS w0 w' L := ⟨Ext.trans h.1 hE, h.2.keep fun k _ hk => hE.block k hk⟩
theorem HS.join {w0 w w' : World} {L L' : List Ck} (h : HS w0 w L) (h' : HS w w' L') : HS w0 w' (L' ++ L) := by
  refine ⟨Ext.trans h.1 h'.1, ?_⟩
  have h1 : Sep w' (fun k => w0.heap.size ≤ k ∧ k < w.heap.size) L := (Sep.trim h.2).keep fun k hk _ => h'.1.block k hk.2
  refine Sep.mono (Sep.append h'.2 h1 fun k hk hk' => absurd hk (by omega)) fun k hk => ?_
  rcases hk with hk | hk
  · exact Nat.le_trans h.1.size hk
  · exact hk.1
theorem HS.pick {w0 w : World} {L : List Ck} (h : HS w0 w L) (n : Nat) {c : Ck} (hn : L[n]? = some c) : HS w0 w (c :: L.eraseIdx n) := ⟨h.1, h.2.pick n hn⟩
theorem HS.swap {w0 w : World} {L : List Ck} {c c' : Ck} (h : HS w0 w (c :: c' :: L)) : HS w0 w (c' :: c :: L) := ⟨h.1, h.2.swap⟩
theorem HS.nth {w0 w : World} {L : List Ck} (h : HS w0 w L) (n : Nat) {c : Ck} (hn : L[n]? = some c) : ∃ S, c.h w S ∧ ∀ k, S k → w0.heap.size ≤ k := by
  obtain ⟨S, h1, h2, -⟩ := (h.pick n hn).2
  exact ⟨S, h1, h2⟩
theorem HS.drop {w0 w : World} {L : List Ck} {c : Ck} (h : HS w0 w (c :: L)) : HS w0 w L := by
  obtain ⟨h0, S, h1, h2, h3⟩ := h
  exact ⟨h0, Sep.mono h3 fun k hk => hk.1⟩
theorem HS.bare {w0 w : World} {L : List Ck} (h : HS w0 w L) : HS w0 w [] := ⟨h.1, trivial⟩

/-- The world has grown, and of what was there at most the blocks S have turned. -/
structure Chg (w w' : World) (S : Nat → Prop) : Prop where
  os : w'.os = w.os
  tape : w'.tape = w.tape
  output : w'.output = w.output
  size : w.heap.size ≤ w'.heap.size
  block : ∀ k, k < w.heap.size → ¬ S k → w'.heap[k]? = w.heap[k]?

theorem Chg.of_ext {w w' : World} (h : Ext w w') (S : Nat → Prop) : Chg w w' S := ⟨h.os, h.tape, h.output, h.size, fun k hk _ => h.block k hk⟩
theorem Chg.of_grown {w w' : World} {row : Option Nat} (h : w.grownBy w' row) : Chg w w' (fun k => row = some k) := ⟨h.os, h.tape, h.output, h.size, fun k hk hs => h.block k hk (fun he => hs he.symm)⟩
theorem Chg.put {w : World} {b : Nat} {T : TypeId} {cs : Array Value} : Chg w (putBlk w b T cs) (fun k => k = b) := ⟨rfl, rfl, rfl, Nat.le_of_eq putBlk_size.symm, fun _ _ hs => putBlk_other hs⟩
theorem Chg.mono {w w' : World} {S S' : Nat → Prop} (h : Chg w w' S) (hS : ∀ k, S k → S' k) : Chg w w' S' := ⟨h.os, h.tape, h.output, h.size, fun k hk hs => h.block k hk fun h => hs (hS k h)⟩

/-- One piece turns into others. -/
theorem HS.step {w0 w w' : World} {L : List Ck} {c c' : Ck} (h : HS w0 w (c :: L))
    (hs : ∀ S, c.h w S → (∀ k, S k → k < w.heap.size) → ∃ S', c'.h w' S' ∧ (∀ k, S' k → S k ∨ w.heap.size ≤ k) ∧ Chg w w' S) : HS w0 w' (c' :: L) := by
  obtain ⟨h0, hsep⟩ := h
  obtain ⟨S, h1, h2, h3⟩ := Sep.trim hsep
  obtain ⟨S', h4, h5, h6⟩ := hs S h1 fun k hk => (h2 k hk).2
  refine ⟨⟨h6.os.trans h0.os, h6.tape.trans h0.tape, h6.output.trans h0.output, Nat.le_trans h0.size h6.size, fun k hk => ?_⟩, S', h4, fun k hk => ?_, ?_⟩
  · exact (h6.block k (Nat.lt_of_lt_of_le hk h0.size) fun hs => absurd (h2 k hs).1 (by omega)).trans (h0.block k hk)
  · rcases h5 k hk with hk | hk
    · exact (h2 k hk).1
    · exact Nat.le_trans h0.size hk
  · refine Sep.mono (Sep.keep h3 fun k hk hl => h6.block k hl hk.2) fun k hk => ⟨hk.1.1, fun hs => ?_⟩
    rcases h5 k hs with hs | hs
    · exact hk.2 hs
    · exact absurd hk.1.2 (by omega)

/-- A new piece. -/
theorem HS.new {w0 w w' : World} {L : List Ck} {c : Ck} (h : HS w0 w L) (hE : Ext w w') {S : Nat → Prop} (hc : c.h w' S) (hS : ∀ k, S k → w.heap.size ≤ k) : HS w0 w' (c :: L) := by
  have h1 : HS w w' [c] := ⟨hE, S, hc, hS, trivial⟩
  exact h.join h1

namespace Ck
/-- Two pieces as one. -/
def sp (c c' : Ck) : Ck where
  h := fun w S => ∃ S1 S2, c.h w S1 ∧ c'.h w S2 ∧ (∀ k, S1 k → S k) ∧ (∀ k, S2 k → S k) ∧ (∀ k, S1 k → ¬ S2 k)
  loc := fun ⟨S1, S2, h1, h2, h3, h4, h5⟩ hk => ⟨S1, S2, c.loc h1 fun k hs hl => hk k (h3 k hs) hl, c'.loc h2 fun k hs hl => hk k (h4 k hs) hl, h3, h4, h5⟩
  trim := fun ⟨_, _, h1, h2, h3, h4, h5⟩ => ⟨_, _, c.trim h1, c'.trim h2, fun k hk => ⟨h3 k hk.1, hk.2⟩, fun k hk => ⟨h4 k hk.1, hk.2⟩, fun k hk hk' => h5 k hk.1 hk'.1⟩

/-- A block with these cells. -/
def blk (b : Nat) (T : TypeId) (cs : Array Value) : Ck where
  h := fun w S => Blk w b T cs ∧ S b
  loc := fun ⟨h1, h2⟩ hk => ⟨h1.of_same (hk b h2 h1.lt), h2⟩
  trim := fun ⟨h1, h2⟩ => ⟨h1, h2, h1.lt⟩

/-- Data that is read. -/
def dat (d : Ty α) (cs : List Value) (x : α) : Ck where
  h := fun w S => d.K w S x cs
  loc := fun h hk => d.loc h hk
  trim := fun h => d.trim h

/-- A row of n elements of size sz that may be grown: its cells. -/
def row (e : TypeId) (sz : Nat) (v : Value) (n : Nat) (cs : List Value) : Ck where
  h := fun w S => w.ownsRow 0 e sz v n cs ∧ ∀ b, v.ownBlock = some b → S b
  loc := fun ⟨h1, h2⟩ hk => ⟨by
    refine ⟨h1.1, ?_⟩
    rcases h1.2 with h | ⟨g, cap, cur, rfl, hb, hg, rest⟩
    · exact .inl h
    · exact .inr ⟨g, cap, cur, rfl, hb, by rw [hk g (h2 g rfl) (Array.getElem?_eq_some_iff.1 hg).1]; exact hg, rest⟩, h2⟩
  trim := fun ⟨h1, h2⟩ => ⟨h1, fun b hb => ⟨h2 b hb, (h1.lt b hb).2⟩⟩

/-- A row of data that may be grown; what its elements lead to is the call's own, too. -/
def own (d : Ty α) (e : TypeId) (v : Value) (xs : List α) : Ck where
  h := fun w S => ∃ cs, (row e d.sz v xs.length cs).h w S ∧ ∀ j x, xs[j]? = some x → ∃ c, d.K w (fun k => S k ∧ v.ownBlock ≠ some k) x c ∧ ∀ i u, c[i]? = some u → cs[j * d.sz + i]? = some u
  loc := fun ⟨cs, h1, h2⟩ hk => ⟨cs, (row e d.sz v _ cs).loc h1 hk, fun j x hj => let ⟨c, h3, h4⟩ := h2 j x hj; ⟨c, d.loc h3 fun k hs hl => hk k hs.1 hl, h4⟩⟩
  trim := fun ⟨cs, h1, h2⟩ => ⟨cs, (row e d.sz v _ cs).trim h1, fun j x hj => let ⟨c, h3, h4⟩ := h2 j x hj; ⟨c, d.mono (d.trim h3) fun k hk => ⟨⟨hk.1.1, hk.2⟩, hk.1.2⟩, h4⟩⟩
end Ck

theorem HS.merge {w0 w : World} {L : List Ck} {c c' : Ck} (h : HS w0 w (c :: c' :: L)) : HS w0 w (c.sp c' :: L) := by
  obtain ⟨h0, S, h1, h2, S', h3, h4, h5⟩ := h
  exact ⟨h0, fun k => S k ∨ S' k, ⟨S, S', h1, h3, fun _ h => .inl h, fun _ h => .inr h, fun k hk hk' => (h4 k hk').2 hk⟩, fun k hk => hk.elim (h2 k) (fun h => (h4 k h).1),
    Sep.mono h5 fun k hk => ⟨hk.1.1, fun h => h.elim hk.1.2 hk.2⟩⟩
theorem HS.split {w0 w : World} {L : List Ck} {c c' : Ck} (h : HS w0 w (c.sp c' :: L)) : HS w0 w (c :: c' :: L) := by
  obtain ⟨h0, S, ⟨S1, S2, h1, h3, h4, h5, h6⟩, h2, h7⟩ := h
  exact ⟨h0, S1, h1, fun k hk => h2 k (h4 k hk), S2, h3, fun k hk => ⟨h2 k (h5 k hk), fun hs => h6 k hs hk⟩, Sep.mono h7 fun k hk => ⟨⟨hk.1, fun hs => hk.2 (h4 k hs)⟩, fun hs => hk.2 (h5 k hs)⟩⟩

theorem HS.blk {w0 w : World} {L : List Ck} (h : HS w0 w L) (n : Nat) {b : Nat} {T : TypeId} {cs : Array Value} (hn : L[n]? = some (Ck.blk b T cs)) : Blk w b T cs := by
  obtain ⟨S, h1, -⟩ := h.nth n hn
  exact h1.1

/-- A store into one of the blocks. -/
theorem HS.put0 {w0 w : World} {L : List Ck} {b : Nat} {T : TypeId} {cs : Array Value} (h : HS w0 w (Ck.blk b T cs :: L)) (cs' : Array Value) : HS w0 (putBlk w b T cs') (Ck.blk b T cs' :: L) := by
  refine HS.step h fun S hS _ => ⟨S, ⟨putBlk_blk hS.1, hS.2⟩, fun k hk => .inl hk, Chg.put.mono fun k hk => ?_⟩
  subst hk; exact hS.2

theorem HS.unpick {w0 w : World} : ∀ (n : Nat) {L : List Ck} {c : Ck}, n ≤ L.length → HS w0 w (c :: L) → HS w0 w (L.insertIdx n c)
  | 0, L, c, _, h => by simpa using h
  | n + 1, [], c, hn, _ => by simp at hn
  | n + 1, c' :: L, c, hn, h => by
    have h1 := h.swap
    obtain ⟨h0, S, h2, h3, h4⟩ := h1
    rw [List.insertIdx_succ_cons]
    refine ⟨h0, S, h2, h3, ?_⟩
    have key : ∀ (n : Nat) (L : List Ck) (U : Nat → Prop), n ≤ L.length → Sep w U (c :: L) → Sep w U (L.insertIdx n c) := by
      intro n
      induction n with
      | zero => intro L U _ h; simpa using h
      | succ n ih =>
        intro L U hn h
        cases L with
        | nil => simp at hn
        | cons y L =>
          obtain ⟨S, a1, a2, a3⟩ := Sep.swap h
          rw [List.insertIdx_succ_cons]
          exact ⟨S, a1, a2, ih L _ (by simpa using hn) a3⟩
    exact key n L _ (by simpa using hn) h4

theorem HS.put {w0 w : World} {L : List Ck} (h : HS w0 w L) (n : Nat) {b : Nat} {T : TypeId} {cs : Array Value} (hn : L[n]? = some (Ck.blk b T cs)) (cs' : Array Value) :
    HS w0 (putBlk w b T cs') ((L.eraseIdx n).insertIdx n (Ck.blk b T cs')) := by
  have hlt := (List.getElem?_eq_some_iff.1 hn).1
  exact HS.unpick n (by rw [List.length_eraseIdx_of_lt hlt]; omega) ((h.pick n hn).put0 cs')

theorem HS.alloc {w0 w : World} {L : List Ck} (h : HS w0 w L) (T : TypeId) (cs : Array Value) : HS w0 (w.alloc (.cells cs T)) (Ck.blk w.heap.size T cs :: L) :=
  h.new (alloc_ext w _) (S := fun k => k = w.heap.size) ⟨alloc_blk w T cs, rfl⟩ fun k hk => by omega

/-- What is owned is read. -/
theorem own_sl {d : Ty α} {e : TypeId} {w : World} {S : Nat → Prop} {v : Value} {xs : List α} (h : (Ck.own d e v xs).h w S) : Sl d w S xs v := by
  obtain ⟨cs, ⟨⟨h0, h1⟩, h2⟩, h3⟩ := h
  rcases h1 with ⟨rfl, hn⟩ | ⟨g, cap, cur, rfl, -, hg, hnc, hcm, hcs, htake⟩
  · have : xs = [] := List.length_eq_zero_iff.1 hn
    subst this
    exact Sl.nil _ _ _
  · refine ⟨some ⟨g, 0, none⟩, cap, rfl, hnc, hcm, (fun h => by cases h), fun _ => ⟨g, 0, rfl, h2 g rfl, (Array.getElem?_eq_some_iff.1 hg).1, fun j x hj => ?_⟩⟩
    obtain ⟨c, hc, hcell⟩ := h3 j x hj
    refine ⟨c, d.mono hc fun k hk => hk.1, fun i u hi => ?_⟩
    have h5 := hcell i u hi
    rw [← htake, List.getElem?_take] at h5
    split at h5
    · have hb : Blk w g e cur := hg
      rw [Nat.zero_add, hb.cell]
      simpa using h5
    · cases h5

theorem HS.sl {w0 w : World} {L : List Ck} (h : HS w0 w L) (n : Nat) {d : Ty α} {e : TypeId} {v : Value} {xs : List α} (hn : L[n]? = some (Ck.own d e v xs)) : Sl d w Any xs v := by
  obtain ⟨S, h1, -⟩ := h.nth n hn
  exact (own_sl h1).any
theorem HS.kd {w0 w : World} {L : List Ck} (h : HS w0 w L) (n : Nat) {d : Ty α} {cs : List Value} {x : α} (hn : L[n]? = some (Ck.dat d cs x)) : d.K w Any x cs := by
  obtain ⟨S, h1, -⟩ := h.nth n hn
  exact d.any h1

/-- The empty row. -/
theorem own_nil (d : Ty α) (e : TypeId) (w : World) : (Ck.own d e (.slice none 0 0) ([] : List α)).h w (fun _ => False) :=
  ⟨[], ⟨World.ownsRow_nil _ _ _ _, fun b hb => by simp [Value.ownBlock] at hb⟩, fun j x hj => by simp at hj⟩
theorem HS.nil {w0 w : World} {L : List Ck} (h : HS w0 w L) (d : Ty α) (e : TypeId) : HS w0 w (Ck.own d e (.slice none 0 0) ([] : List α) :: L) :=
  h.new (Ext.refl w) (own_nil d e w) fun k hk => hk.elim

end
end Go.PM

/- A block that is a row of single cells: what append puts behind it; elements' rows by their blocks. -/
import Derived.Test.YthmajhdemooecaaXH
import Derived.Laws.Tables
namespace Go.PM
set_option linter.unusedVariables false
open Go.RowKit

section
variable {P : Program}

/-- append(s, x..) on a block of its own, of which other slices may tell: the block keeps its size. -/
theorem HS.app_blk {w0 w : World} {L : List Ck} {t e : TypeId} {g n cap : Nat} {cur : Array Value} (h : HS w0 w (Ck.blk g e cur :: L)) (hT : chkRow P t e 1 = true) (hs : cur.size = cap) (hn : n ≤ cap) (hcm : cap ≤ maxLen)
    {b o m c : Nat} {news : List Value} (hl : news.length = m) (hnews : ∀ j u, news[j]? = some u → w.cell? ⟨b, o + j, none⟩ = some u) (h1 : ∀ u ∈ news, u.oneCell' = true) (hb : n + m ≤ 137438953472) :
    ∃ v' w', (∀ ty, (Builtin.append_ #[t, t] ty #[.slice (some ⟨g, 0, none⟩) n cap, .slice (some ⟨b, o, none⟩) m c]).run P w = .ok v' w') ∧
      ∃ g' cap' cur' M, v' = .slice (some ⟨g', 0, none⟩) (n + m) cap' ∧ cur'.size = cap' ∧ n + m ≤ cap' ∧ HS w0 w' (Ck.blk g' e cur' :: M) ∧
        ∀ w2 cur2, cur2.size = cap' → HS w0 w2 (Ck.blk g' e cur2 :: M) → ∃ cur3, cur3.size = cap ∧ HS w0 w2 (Ck.blk g e cur3 :: L) := by
  obtain ⟨i, z, ht, hi, hz, hsize, hzs, hsz, hby⟩ := chkRow_spec hT
  have hB : w.heap[g]? = some (.cells cur e (0, 0)) := h.blk 0 rfl
  have hcell : ∀ j u, news[j]? = some u → w.cell? ((⟨b, o, none⟩ : Addr).add j) = some u := fun j u hj => by rw [add_off]; exact hnews j u hj
  have hl' : news.length = m * i.size := by rw [hsize, hl, Nat.mul_one]
  have hbytes : (n + m) * i.bytes ≤ 140737488355328 := by
    calc (n + m) * i.bytes ≤ 137438953472 * 1024 := Nat.mul_le_mul hb hby
      _ ≤ _ := by decide
  by_cases hroom : n + m ≤ cap
  · have hfit : n * i.size + news.length ≤ cur.size := by rw [hsize, hl, hs]; omega
    obtain ⟨X, hX⟩ : ∃ X : Array Value, X = (cur.toList.take (n * i.size) ++ news ++ cur.toList.drop (n * i.size + news.length)).toArray := ⟨_, rfl⟩
    have hr := fun ty => run_append_room (P := P) w t ty e i ht hi g n cap cur hB ⟨b, o, none⟩ m c news hl' hcell h1 hroom hfit
    rw [← hX] at hr
    refine ⟨_, _, hr, g, cap, X, L, rfl, ?_, hroom, ?_, fun w2 cur2 h2 H2 => ⟨cur2, h2, H2⟩⟩
    · rw [hX]
      simp only [List.size_toArray, List.length_append, List.length_take, List.length_drop, Array.length_toList]
      omega
    · obtain ⟨S, ⟨-, hS⟩, hb', hup⟩ := h.opn
      exact hup _ (Ck.blk g e X) S ⟨setRow_heap w g cur _ e _ hB, hS⟩ (fun k hk => .inl hk) ⟨rfl, rfl, rfl, by simp, fun k _ hk => setRow_other w g k _ (fun he => hk (he ▸ hS))⟩
  · have holds : ∀ j u, (cur.toList.take n)[j]? = some u → w.cell? ((⟨g, 0, none⟩ : Addr).add j) = some u := fun j u hj => by
      rw [add_off, Nat.zero_add]
      have hbk : Blk w g e cur := hB
      rw [hbk.cell]
      rw [List.getElem?_take] at hj
      split at hj
      · simpa using hj
      · cases hj
    have hol : (cur.toList.take n).length = n * i.size := by rw [List.length_take, Array.length_toList, hsize]; omega
    have hge := grownCap_ge w (n + m) cap e
    obtain ⟨X, hX⟩ : ∃ X : Array Value, X = ((cur.toList.take n).toArray ++ news.toArray ++ Builtin.zeroCells z.cells (grownCap w (n + m) cap e - (n + m))) := ⟨_, rfl⟩
    have hr := fun ty => run_append_grow (P := P) w t ty e i z ht hi hz ⟨g, 0, none⟩ n cap _ hol holds ⟨b, o, none⟩ m c news hl' hcell (by omega) (by omega) (growslice_fits (by omega) hbytes)
    rw [← hX] at hr
    refine ⟨_, _, hr, w.heap.size, _, X, Ck.blk g e cur :: L, rfl, ?_, hge, ?_, fun w2 cur2 h2 H2 => ⟨cur, hs, H2.drop⟩⟩
    · rw [hX]
      simp only [Array.size_append, List.size_toArray, size_zeroCells, hzs, hol, hl', hsize]
      omega
    · exact h.new (c := Ck.blk w.heap.size e X) ((Ext.drew w).trans (alloc_ext _ _)) (S := fun k => k = w.heap.size) ⟨heap_alloc_new w.drew _, rfl⟩ fun k hk => by omega
end
end Go.PM

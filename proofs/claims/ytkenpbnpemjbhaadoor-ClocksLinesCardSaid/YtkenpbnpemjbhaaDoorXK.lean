/- slices.Insert of one string into a slice of one's own (in work). Alias Tryd, element type 9; the function s number comes out of XI (exp.py). -/
import Derived.Test.YtkenpbnpemjbhaaDoorXI
import Derived.Test.YtkenpbnpemjbhaaDoorXJ
namespace Go.Proofs.YtkenpbnpemjbhaaDoor.X
open Go Go.RowKit
set_option linter.unusedVariables false
theorem St.vec_apart {w0 w : World} {l : List Assn} {e t : TypeId} {g n c vb : Nat} {cs vs : List Value} (h : St w0 w (vec e 1 (.slice (some ⟨g, 0, none⟩) n c) n cs :: cells vb t vs :: l)) : vb ≠ g := by
  obtain ⟨ps, hm, hh, hn, hb⟩ := h.out
  match ps, hm with
  | [], hm => simp at hm
  | [p], hm => simp at hm
  | p :: q :: ps, hm =>
    simp only [List.map_cons, List.cons.injEq] at hm
    obtain ⟨h1, h2, hm⟩ := hm
    have hp := hh p (by simp)
    have hq := hh q (by simp)
    rw [h1] at hp
    rw [h2] at hq
    obtain ⟨-, hp⟩ := hp
    rcases hp with ⟨hv, _⟩ | ⟨g2, cap, cur, hv, hF, _⟩
    · cases hv
    cases hv
    simp only [List.flatMap_cons] at hn
    intro e
    subst e
    exact (List.nodup_append.1 hn).2.2 vb (by rw [hF]; simp) vb (List.mem_append_left _ (by rw [hq.1]; simp)) rfl
theorem insert_at {i : Int} {v : ByteArray} {xs : List ByteArray} {A : Option Addr} {n c vb : Nat} {cs : List Value} {w0 w : World} {l : List Assn} {ρ : Heap} (hi : 0 ≤ i ∧ i ≤ xs.length) (h1 : 1 ≤ xs.length) (hz : xs.length ≤ 1000000) (hr : RepL RpS ρ xs cs)
    (hS : St w0 w (vec 9 RpS.sz (.slice A n c) n cs :: cells vb 9 [.string v] :: l)) :
    Calls Tryd.prog 13 #[.slice A n c, .int .i64 i, .slice (some ⟨vb, 0, none⟩) 1 1] w fun e w' => ∃ (A' : Option Addr) (n' c' : Nat) (cs' : List Value), e = .returned (.slice A' n' c') ∧ RepL RpS ρ (xs.take i.toNat ++ v :: xs.drop i.toNat) cs' ∧
      St w0 w' (vec 9 RpS.sz (.slice A' n' c') n' cs' :: cells vb 9 [.string v] :: l) := by
  obtain rfl := repl_strs_eq xs cs hr
  obtain ⟨k, rfl⟩ := Int.eq_ofNat_of_zero_le hi.1
  obtain ⟨F, ⟨hx, hF⟩, hlt⟩ := hS.head
  have hn : xs.length = n := by simpa [show RpS.sz = 1 from rfl] using hx
  rcases hF with ⟨hv, hn0, _⟩ | ⟨g, cap, cur, hv, rfl, hg, hnc, hcm, hcs, htake⟩
  · omega
  injection hv with e1 _ e3
  subst e1
  subst e3
  have hcur : cur.size = c := by simpa [show RpS.sz = 1 from rfl] using hcs
  have htk : cur.toList.take n = xs.map Value.string := by simpa [show RpS.sz = 1 from rfl] using htake
  have hgw : w.heap[g]? = some (.cells cur 9 (0, 0)) := hg
  have hV := hS.perm (.swap _ _ _)
  have hvw := hV.block
  have hne := hS.vec_apart
  have hcell : ∀ j x, (xs.map Value.string)[j]? = some x → w.cell? ⟨g, 0 + j, none⟩ = some x := by
    intro j x hj
    rw [← htk, List.getElem?_take] at hj
    split at hj
    · simp only [World.cell?, hgw, Nat.zero_add]
      simpa using hj
    · cases hj
  have hvs : ∀ j x, [Value.string v][j]? = some x → w.cell? ⟨vb, 0 + j, none⟩ = some x := by
    intro j x hj
    rw [Nat.zero_add]
    exact hV.cell hj
  have one : ∀ x ∈ xs.map Value.string, x.oneCell' = true := by
    intro x hx
    obtain ⟨y, -, rfl⟩ := List.mem_map.1 hx
    rfl
  have one1 : ∀ x ∈ [Value.string v], x.oneCell' = true := by
    intro x hx
    rw [List.mem_singleton.1 hx]
    rfl
  have hrep : RepL RpS ρ (xs.take k ++ v :: xs.drop k) ((xs.map Value.string).take k ++ Value.string v :: (xs.map Value.string).drop k) := by
    have := repl_strs (ρ := ρ) (xs.take k ++ v :: xs.drop k)
    simpa [List.map_append, List.map_take, List.map_drop] using this
  simp only [Int.toNat_natCast]
  by_cases hk : k < n
  · by_cases hroom : n + 1 ≤ c
    · refine (Any2.slices_Insert_string_shift Tryd.laysInsert g 0 n c k vb 0 1 1 (xs.map Value.string) [.string v] w hk (by omega) hroom (by simp only [maxLen] at hcm; omega) hne (by simpa using hn) rfl hcell ?_ ?_ hvs one one1 9 9 1 cur.size ?_ ?_ (by omega) ?_ ?_).mono ?_
      · intro j hj
        simp only [World.cell?, hgw, Nat.zero_add]
        simp; omega
      · intro j hj
        simp [World.frozen?, hgw]
      · simp [World.shape?, hvw]
      · simp [World.shape?, hgw]
      · exact hV.unfrozen 0
      · exact hV.unfrozen 1
      rintro e w' ⟨rfl, rfl⟩
      exact ⟨_, _, _, _, rfl, hrep, hS.vec_ins (by omega) hroom⟩
    · refine (Any2.slices_Insert_string_grow Tryd.laysInsert g 0 n c k vb 0 1 1 (xs.map Value.string) [.string v] w hk (by omega) hnc (by omega) (by omega) (by simpa using hn) rfl hcell hvs one one1).mono ?_
      rintro e w' ⟨rfl, rfl⟩
      refine ⟨_, _, _, _, rfl, hrep, hS.vec_grow (by omega) ?_ ?_ ?_ ?_⟩
      · simp only [Array.size_append, List.size_toArray, size_zeroCells, List.length_take, List.length_map, show (Value.string ⟨#[]⟩).cells.size = 1 from rfl, show Tryd.laysInsert_ren.t 9 = 9 from rfl]
        have := grownCap_ge w (n + 1) c 9
        omega
      · simp only [Array.toList_append, List.append_assoc]
        rw [List.take_append_of_le_length (by simp; omega), List.take_of_length_le (by simp; omega)]
      · exact grownCap_ge w (n + 1) c 9
      · exact grownCap_le_maxLen w (n + 1) c 9 (by simp only [maxLen]; omega)
  · have hkn : k = n := by omega
    subst hkn
    by_cases hroom : k + 1 ≤ c
    · refine (Any2.slices_Insert_string_end_room Tryd.laysInsert g 0 k c vb 0 1 1 [.string v] w (by omega) hroom (by simp only [maxLen] at hcm; omega) rfl ?_ ?_ hvs one1).mono ?_
      · intro j hj
        simp only [World.cell?, hgw, Nat.zero_add]
        simp; omega
      · intro j hj
        simp [World.frozen?, hgw]
      rintro e w' ⟨rfl, rfl⟩
      refine ⟨_, _, _, _, rfl, hrep, ?_⟩
      have := hS.vec_end (v := Value.string v) hroom
      rw [List.take_of_length_le (by simp [hn]), List.drop_of_length_le (by simp [hn])]
      exact this
    · refine (Any2.slices_Insert_string_end_grow Tryd.laysInsert (some ⟨g, 0, none⟩) k c vb 0 1 1 (xs.map Value.string) [.string v] w (by omega) hnc (by omega) (by omega) (by simpa using hn) rfl (fun h => by cases h) ?_ hvs one1).mono ?_
      · intro a ha j x hj
        cases ha
        rw [Go.Lib.add_plain]
        exact hcell j x hj
      rintro e w' ⟨rfl, rfl⟩
      have hge := grownCap_ge w (k + 1) c 9
      refine ⟨_, _, _, _, rfl, hrep, ?_⟩
      rw [List.take_of_length_le (by simp [hn]), List.drop_of_length_le (by simp [hn])]
      refine hS.vec_new (by simp [hn]) hge (grownCap_le_maxLen w (k + 1) c 9 (by simp only [maxLen]; omega)) ?_ ?_
      · simp only [Array.size_append, List.size_toArray, size_zeroCells, List.length_append, List.length_map, List.length_singleton, show (Value.string ⟨#[]⟩).cells.size = 1 from rfl, show Tryd.laysInsert_ren.t 9 = 9 from rfl]
        omega
      · simp only [Array.toList_append]
        rw [List.take_append_of_le_length (by simp [hn]), List.take_of_length_le (by simp [hn])]
end Go.Proofs.YtkenpbnpemjbhaaDoor.X

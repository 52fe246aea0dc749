/- Cells of one's own block, several written at once (for slices.Insert; in work). -/
import Derived.Test.YtkenpbnpemjbhaaDoorYV
import Derived.Laws.IdiomCopy
namespace Go.Proofs.YtkenpbnpemjbhaaDoor.X
open Go Go.RowKit
set_option linter.unusedVariables false
/-- A block of which a row of cells is written. -/
theorem setCells_block {b : Nat} {e : TypeId} {fz : Nat × Nat} : ∀ (l : List Value) (o : Nat) (w : World) (cur : Array Value), w.heap[b]? = some (.cells cur e fz) → o + l.length ≤ cur.size →
    ∃ cur', (w.setCells b o l).heap[b]? = some (.cells cur' e fz) ∧ cur'.toList = cur.toList.take o ++ l ++ cur.toList.drop (o + l.length) ∧
      ((w.setCells b o l).os = w.os ∧ (w.setCells b o l).tape = w.tape ∧ (w.setCells b o l).output = w.output ∧ (w.setCells b o l).heap.size = w.heap.size) ∧ ∀ c, c ≠ b → (w.setCells b o l).heap[c]? = w.heap[c]?
  | [], o, w, cur, h, hle => ⟨cur, h, by simp, ⟨rfl, rfl, rfl, rfl⟩, fun _ _ => rfl⟩
  | v :: l, o, w, cur, h, hle => by
    simp only [List.length_cons] at hle
    have h1 : (w.setCell ⟨b, o, none⟩ v).heap[b]? = some (.cells (cur.setIfInBounds o v) e fz) := by
      simp only [World.setCell, Array.getElem?_modify, if_true, h, Option.map_some]
      rfl
    obtain ⟨cur', a1, a2, ⟨a3, a4, a5, a6⟩, a7⟩ := setCells_block l (o + 1) (w.setCell ⟨b, o, none⟩ v) (cur.setIfInBounds o v) h1 (by simp; omega)
    refine ⟨cur', a1, ?_, ⟨a3, a4, a5, a6.trans (by simp [World.setCell])⟩, fun c hc => (a7 c hc).trans ?_⟩
    · rw [a2]
      have ho : o < cur.toList.length := by simp; omega
      simp only [Array.toList_setIfInBounds]
      have hl : (cur.toList.take o).length = o := by rw [List.length_take]; omega
      have e0 : cur.toList.set o v = (cur.toList.take o ++ [v]) ++ cur.toList.drop (o + 1) := by
        rw [List.set_eq_take_append_cons_drop, if_pos ho]
        simp
      have hl2 : (cur.toList.take o ++ [v]).length = o + 1 := by rw [List.length_append, hl]; rfl
      have e1 : (cur.toList.set o v).take (o + 1) = cur.toList.take o ++ [v] := by
        rw [e0, ← hl2, List.take_left]
      have e2 : (cur.toList.set o v).drop (o + 1 + l.length) = cur.toList.drop (o + (l.length + 1)) := by
        rw [e0, ← List.drop_drop]
        have e3 : ((cur.toList.take o ++ [v]) ++ cur.toList.drop (o + 1)).drop (o + 1) = cur.toList.drop (o + 1) := by
          conv => lhs; arg 1; rw [← hl2]
          rw [List.drop_left]
        rw [e3, List.drop_drop]
        congr 1
        omega
      rw [e1, e2]
      simp
    · simp only [World.setCell, Array.getElem?_modify]
      rw [if_neg (fun e => hc e.symm)]
variable {w0 w : World} {l : List Assn} {e : TypeId} {g n c : Nat} {cs : List Value}
/-- slices.Insert's writes, where there is room. -/
theorem St.vec_ins {i : Nat} {v : Value} (hi : i ≤ n) (hroom : n + 1 ≤ c) (h : St w0 w (vec e 1 (.slice (some ⟨g, 0, none⟩) n c) n cs :: l)) :
    St w0 ((w.drew.setCells g (0 + (i + 1)) (cs.drop i)).setCells g (0 + i) [v]) (vec e 1 (.slice (some ⟨g, 0, none⟩) (n + 1) c) (n + 1) (cs.take i ++ v :: cs.drop i) :: l) := by
  obtain ⟨F, ⟨hx, hF⟩, hlt⟩ := h.head
  rcases hF with ⟨hv, _⟩ | ⟨g', cap, cur, hv, rfl, hg, hnc, hcm, hcs, htake⟩
  · cases hv
  injection hv with h1 _ h3
  cases h1
  subst h3
  have hcl : cs.length = n := by omega
  have hsz : cur.size = c := by omega
  have hw : w.drew.heap[g]? = some (.cells cur e (0, 0)) := hg
  obtain ⟨c1, a1, a2, ⟨a3, a4, a5, a6⟩, a7⟩ := setCells_block (cs.drop i) (0 + (i + 1)) w.drew cur hw (by rw [List.length_drop]; omega)
  have hs1 : c1.size = cur.size := by
    have := congrArg List.length a2
    simp only [Array.length_toList, List.length_append, List.length_take, List.length_drop] at this
    omega
  obtain ⟨c2, b1, b2, ⟨b3, b4, b5, b6⟩, b7⟩ := setCells_block [v] (0 + i) (w.drew.setCells g (0 + (i + 1)) (cs.drop i)) c1 a1 (by simp only [List.length_singleton]; omega)
  have hs2 : c2.size = cur.size := by
    have := congrArg List.length b2
    simp only [Array.length_toList, List.length_append, List.length_take, List.length_drop, List.length_singleton] at this
    omega
  refine h.step (b3.trans a3) (b4.trans a4) (b5.trans a5) (by rw [b6, a6]; exact Nat.le_refl _) fun F hF hlt hn => ?_
  obtain ⟨-, hF2⟩ := hF
  rcases hF2 with ⟨hv2, _⟩ | ⟨g2, cap2, cur2, hv2, rfl, _⟩
  · cases hv2
  cases hv2
  have hgl : g < w.heap.size := hlt g (by simp)
  have hcur : cur.toList.length = c := by simpa using hsz
  have k1 : c1.toList.take i = cs.take i := by
    rw [a2, ← htake, List.append_assoc, List.take_append_of_le_length (by rw [List.length_take]; omega), List.take_take, List.take_take]
    congr 1
    omega
  have k2 : c1.toList.drop (i + 1) = cs.drop i ++ cur.toList.drop (0 + (i + 1) + (cs.drop i).length) := by
    have hl : (cur.toList.take (0 + (i + 1))).length = i + 1 := by rw [List.length_take]; omega
    rw [a2, List.append_assoc]
    conv => lhs; arg 1; rw [← hl]
    rw [List.drop_left]
  refine ⟨[g], ⟨by simp [hcl]; omega, .inr ⟨g, c, c2, rfl, rfl, b1, hroom, hcm, by omega, ?_⟩⟩, by simp, by simp, fun b hb => by rw [List.mem_singleton.1 hb, b6, a6]; exact hgl, fun b hb hn => ?_⟩
  · rw [b2]
    simp only [Nat.zero_add, List.length_singleton]
    rw [k1, k2]
    have hl : ((cs.take i ++ [v]) ++ cs.drop i).length = (n + 1) * 1 := by simp only [List.length_append, List.length_take, List.length_drop, List.length_singleton]; omega
    rw [← List.append_assoc, ← hl, List.take_left]
    simp
  · have hb' : b ≠ g := by simpa using hn
    exact (b7 b hb').trans (a7 b hb')
/-- One more at the end, where there is room. -/
theorem St.vec_end {v : Value} (hroom : n + 1 ≤ c) (h : St w0 w (vec e 1 (.slice (some ⟨g, 0, none⟩) n c) n cs :: l)) :
    St w0 (w.setCells g (0 + n) [v]) (vec e 1 (.slice (some ⟨g, 0, none⟩) (n + 1) c) (n + 1) (cs ++ [v]) :: l) := by
  obtain ⟨F, ⟨hx, hF⟩, hlt⟩ := h.head
  rcases hF with ⟨hv, _⟩ | ⟨g', cap, cur, hv, rfl, hg, hnc, hcm, hcs, htake⟩
  · cases hv
  injection hv with h1 _ h3
  cases h1
  subst h3
  have hcl : cs.length = n := by omega
  have hsz : cur.size = c := by omega
  have hw : w.heap[g]? = some (.cells cur e (0, 0)) := hg
  obtain ⟨c2, b1, b2, ⟨b3, b4, b5, b6⟩, b7⟩ := setCells_block [v] (0 + n) w cur hw (by simp only [List.length_singleton]; omega)
  have hcur : cur.toList.length = c := by simpa using hsz
  have hs2 : c2.size = cur.size := by
    have := congrArg List.length b2
    simp only [Array.length_toList, List.length_append, List.length_take, List.length_drop, List.length_singleton] at this
    omega
  refine h.step b3 b4 b5 (by rw [b6]; exact Nat.le_refl _) fun F hF hlt hn => ?_
  obtain ⟨-, hF2⟩ := hF
  rcases hF2 with ⟨hv2, _⟩ | ⟨g2, cap2, cur2, hv2, rfl, _⟩
  · cases hv2
  cases hv2
  have hgl : g < w.heap.size := hlt g (by simp)
  refine ⟨[g], ⟨by simp [hcl], .inr ⟨g, c, c2, rfl, rfl, b1, hroom, hcm, by omega, ?_⟩⟩, by simp, by simp, fun b hb => by rw [List.mem_singleton.1 hb, b6]; exact hgl, fun b hb hn => ?_⟩
  · have k1 : cur.toList.take (0 + n) = cs := by rw [← htake, Nat.zero_add, Nat.mul_one]
    have hl : (cs ++ [v]).length = (n + 1) * 1 := by simp only [List.length_append, List.length_singleton]; omega
    rw [b2, k1, ← hl, List.take_left]
  · have hb' : b ≠ g := by simpa using hn
    exact b7 b hb'
/-- A new row of one's own in place of the old one. -/
theorem St.vec_new {cap : Nat} {new : List Value} {cur : Array Value} (h : St w0 w (vec e 1 (.slice (some ⟨g, 0, none⟩) n c) n cs :: l)) (hl : new.length = n + 1) (hc : n + 1 ≤ cap) (hm : cap ≤ maxLen) (hs : cur.size = cap) (ht : cur.toList.take (n + 1) = new) :
    St w0 (w.drew.alloc (.cells cur e)) (vec e 1 (.slice (some ⟨w.heap.size, 0, none⟩) (n + 1) cap) (n + 1) new :: l) :=
  (h.drop.drew.alloc _).tell fun F hF => ⟨by rw [hl, Nat.mul_one], .inr ⟨_, _, _, rfl, hF.1, hF.2, hc, hm, by rw [hs, Nat.mul_one], by rw [Nat.mul_one]; exact ht⟩⟩
theorem St.blk_set {cur : Array Value} {o : Nat} {xs : List Value} (h : St w0 w (blk g (.cells cur e) :: l)) (hle : o + xs.length ≤ cur.size) :
    ∃ cur' : Array Value, cur'.toList = cur.toList.take o ++ xs ++ cur.toList.drop (o + xs.length) ∧ St w0 (w.drew.setCells g o xs) (blk g (.cells cur' e) :: l) := by
  have hw : w.drew.heap[g]? = some (.cells cur e (0, 0)) := h.block
  obtain ⟨c2, b1, b2, ⟨b3, b4, b5, b6⟩, b7⟩ := setCells_block xs o w.drew cur hw hle
  refine ⟨c2, b2, h.step b3 b4 b5 (by rw [b6]; exact Nat.le_refl _) fun F hF hlt hn => ?_⟩
  obtain ⟨rfl, _⟩ := hF
  have hgl : g < w.heap.size := hlt g (by simp)
  refine ⟨[g], ⟨rfl, b1⟩, by simp, by simp, fun b hb => by rw [List.mem_singleton.1 hb, b6]; exact hgl, fun b hb hn => ?_⟩
  have hb' : b ≠ g := by simpa using hn
  exact b7 b hb'
/-- slices.Insert's writes, where there is no room. -/
theorem St.vec_grow {i cap : Nat} {v : Value} {X : Array Value} (hi : i ≤ n) (h : St w0 w (vec e 1 (.slice (some ⟨g, 0, none⟩) n c) n cs :: l)) (hX : X.size = cap) (hXt : X.toList.take i = cs.take i) (hcap : n + 1 ≤ cap) (hm : cap ≤ maxLen) :
    St w0 ((((w.alloc (.cells X e)).drew.setCells w.heap.size i [v]).drew).setCells w.heap.size (i + 1) (cs.drop i)) (vec e 1 (.slice (some ⟨w.heap.size, 0, none⟩) (n + 1) cap) (n + 1) (cs.take i ++ v :: cs.drop i) :: l) := by
  obtain ⟨F, ⟨hx, _⟩, _⟩ := h.head
  have hcl : cs.length = n := by omega
  have hXl : X.toList.length = cap := by simpa using hX
  obtain ⟨c1, a1, h1⟩ := (h.drop.alloc (.cells X e)).blk_set (o := i) (xs := [v]) (by simp only [List.length_singleton]; omega)
  have s1 : c1.toList.length = cap := by rw [a1]; simp only [List.length_append, List.length_take, List.length_drop, List.length_singleton]; omega
  obtain ⟨c2, a2, h2⟩ := h1.blk_set (o := i + 1) (xs := cs.drop i) (by rw [List.length_drop, ← Array.length_toList]; omega)
  have s2 : c2.toList.length = cap := by rw [a2]; simp only [List.length_append, List.length_take, List.length_drop]; omega
  have hl : (X.toList.take i).length = i := by rw [List.length_take]; omega
  have k1 : c1.toList.take (i + 1) = cs.take i ++ [v] := by
    rw [a1, hXt, show i + 1 = (cs.take i ++ [v]).length by simp; omega, List.take_left]
  refine h2.tell fun F hF => ⟨by simp; omega, .inr ⟨_, _, _, rfl, hF.1, hF.2, hcap, hm, by rw [Nat.mul_one, ← s2, Array.length_toList], ?_⟩⟩
  rw [a2, k1]
  have hl2 : ((cs.take i ++ [v]) ++ cs.drop i).length = (n + 1) * 1 := by simp only [List.length_append, List.length_take, List.length_drop, List.length_singleton]; omega
  rw [← hl2, List.take_left]
  simp
end Go.Proofs.YtkenpbnpemjbhaaDoor.X

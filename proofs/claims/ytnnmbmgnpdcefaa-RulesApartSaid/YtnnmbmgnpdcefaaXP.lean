/- slices.SortFunc, by the kit's contract, told of slices of one's own. -/
import Derived.Test.YtnnmbmgnpdcefaaYX
import Derived.Shelf.SlSortCmp.NoneTotal
namespace Go.Proofs.Ytnnmbmgnpdcefaa.X
open Go Go.RowKit Go.Sort
set_option linter.unusedVariables false
set_option linter.unusedSectionVars false
/-- A list, sorted by a function that parts whatever two are not one. -/
def sortF {α : Type} (cf : α → α → Int) (xs : List α) : List α := xs.mergeSort fun x y => !decide (cf y x < 0)
section
variable {w0 w : World} {l : List Assn} {ρ : Heap}
theorem St.ro_ne {b : Nat} {o : Obj} (h : St w0 w (blk b o :: ro ρ :: l)) : ρ b = none := by
 obtain ⟨ps, hm, hh, hn, hb⟩ := h.out
 match ps, hm with
 | [p], hm => simp at hm
 | p :: q :: ps, hm =>
  simp only [List.map_cons, List.cons.injEq] at hm
  obtain ⟨h1, h2, hm⟩ := hm
  have hp := hh p (by simp)
  have hq := hh q (by simp)
  rw [h1] at hp
  rw [h2] at hq
  cases hr : ρ b with
  | none => rfl
  | some o' =>
   simp only [List.flatMap_cons] at hn
   have hbp : b ∈ p.2 := by rw [hp.1]; simp
   exact absurd rfl ((List.nodup_append.1 hn).2.2 b hbp b (List.mem_append_left _ (hq.1 b o' hr).2))
/-- A world in which a row was sorted. -/
theorem sort_world {b : Nat} {e : TypeId} {cur : List Value} (hS : St w0 w (cells b e cur :: l)) (F : Array Value) (hF : F.size ≤ cur.length) (m : Nat) (os : Array Obj) :
  ∃ cur', cur'.length = cur.length ∧ cur'.take F.size = F.toList ∧ St w0 (grow (putRow id (Go.Sort.ahead w m) b 0 F) os) (cells b e cur' :: l) := by
 refine ⟨(putCells id 0 F ⟨cur⟩).toList, by simp [putCells], ?_, ?_⟩
 ·apply List.ext_getElem
  ·simp [putCells]; omega
  ·intro i h1 h2
   have h3 : i < F.size := by simpa using h2
   simp [putCells, h3]
 ·have h1 : St w0 (Go.Sort.ahead w m) (cells b e cur :: l) := hS.drawn _ (Nat.le_add_right _ _)
  have hlt : b < (Go.Sort.ahead w m).heap.size := St.lt h1
  have h2 : St w0 (putRow id (Go.Sort.ahead w m) b 0 F) (cells b e (putCells id 0 F ⟨cur⟩).toList :: l) := by
   refine St.step h1 rfl rfl rfl (by simp [putRow, mapBlock]) fun F' hF' hbF hn => ⟨F', ⟨hF'.1, ?_⟩, hn, fun b hb => .inl hb, fun b' hb' => by simp [putRow, mapBlock]; exact hbF b' hb', fun b' hlt' hni => ?_⟩
   ·have := hF'.2
    have hb : (Go.Sort.ahead w m).heap[b]? = some (.cells ⟨cur⟩ e (0, 0)) := this
    show ((Go.Sort.ahead w m).heap.modify b (onCells (putCells id 0 F)))[b]? = _
    rw [Array.getElem?_modify, if_pos rfl, hb]
    rfl
   ·obtain ⟨rfl, _⟩ := hF'
    have hne : ¬ b = b' := fun h => hni (by simp [h])
    show ((Go.Sort.ahead w m).heap.modify b (onCells (putCells id 0 F)))[b']? = _
    rw [Array.getElem?_modify, if_neg hne]
  exact h2.grows rfl rfl rfl (by simp [grow]) (fun c hc => by simp only [grow]; exact Array.getElem?_append_left hc)
end
section
variable {α : Type} [Inhabited α] {enc : α → List Value} {k : Nat}
theorem flat_get (hk : ∀ x, (enc x).length = k) : ∀ (xs : List α) (t : Nat), t < xs.length * k → (xs.flatMap enc)[t]! = (enc xs[t / k]!)[t % k]!
 | [], t, h => by simp at h
 | x :: xs, t, h => by
  have kp : 0 < k := by
   rcases Nat.eq_zero_or_pos k with h0 | h0
   ·subst h0; simp at h
   ·exact h0
  rw [List.length_cons, Nat.add_mul, Nat.one_mul] at h
  by_cases q : t < k
  ·rw [Nat.div_eq_of_lt q, Nat.mod_eq_of_lt q]
   simp only [List.flatMap_cons]
   rw [List.getElem!_eq_getElem?_getD, List.getElem!_eq_getElem?_getD, List.getElem?_append_left (by rw [hk]; exact q)]
   simp
  ·have h1 : t / k = (t - k) / k + 1 := by
    rw [← Nat.add_div_right _ kp]; congr 1; omega
   have h2 : t % k = (t - k) % k := (Nat.mod_eq_sub_mod (by omega))
   have ih := flat_get hk xs (t - k) (by omega)
   rw [h1, h2]
   simp only [List.flatMap_cons]
   rw [List.getElem!_eq_getElem?_getD, List.getElem?_append_right (by rw [hk]; omega), hk, ← List.getElem!_eq_getElem?_getD, ih]
   simp
theorem flatK_list (hk : ∀ x, (enc x).length = k) (xs : List α) : flatK enc k xs.toArray = ⟨xs.flatMap enc⟩ := by
 have hl : (xs.flatMap enc).length = xs.length * k := by
  induction xs with
  | nil => simp
  | cons x xs ih => simp only [List.flatMap_cons, List.length_append, List.length_cons, ih, hk, Nat.add_mul, Nat.one_mul]; omega
 refine ext_get! (by simp [hl]) fun t ht => ?_
 have ht' : t < xs.length * k := by simpa using ht
 rw [get_flatK enc k xs.toArray t (by simpa using ht')]
 have := flat_get hk xs t ht'
 rw [List.getElem!_toArray, List.getElem!_toArray, this]
variable {Q : Rp α} {ρ : Heap}
theorem repl_flat (hQ : ∀ ρ c x, Q.ok ρ c x ↔ c = enc x) : ∀ {xs : List α} {cs : List Value}, RepL Q ρ xs cs ↔ cs = xs.flatMap enc
 | [], cs => ⟨fun h => by cases h; rfl, fun h => by subst h; rfl⟩
 | x :: xs, cs => by
  constructor
  ·rintro ⟨c1, c2, rfl, h1, h2⟩
   rw [(hQ _ _ _).1 h1, (repl_flat hQ).1 h2]; simp
  ·rintro rfl
   exact ⟨enc x, xs.flatMap enc, by simp, (hQ _ _ _).2 rfl, (repl_flat hQ).2 rfl⟩
end
section
variable {P : Program} {ρr : Go.Shelf.Ren} {α : Type} [Inhabited α] {w0 w : World} {l : List Assn} {ρ : Heap}
/-- A comparison that leaves all as it was lays what the sort asks. -/
theorem cmp_lays {g : Nat} {enc : α → List Value} {k : Nat} {cf : α → α → Int} {b size : Nat}
  (hc : ∀ (x y : α) {w0 w : World} {ρ : Heap}, St w0 w [ro ρ] → Calls P g #[.agg (enc x).toArray, .agg (enc y).toArray] w fun e w' => e = .returned (.int .i64 (cf x y)) ∧ St w0 w' [ro ρ])
  (hb : b < w.heap.size) (hbase : Base ρ) (hsub : ∀ c o, ρ c = some o → w.heap[c]? = some o ∧ c ≠ b) : CmpLays P g #[] enc k cf b 0 size w := by
 intro m os dk hs x y
 have hW : Base (hp (sortWorldK enc k w b 0 m dk os)) := by
  refine hbase.mono fun c o hco => ?_
  obtain ⟨h1, h2⟩ := hsub c o hco
  have hlt : c < w.heap.size := by
   rcases Nat.lt_or_ge c w.heap.size with h | h
   ·exact h
   ·rw [Array.getElem?_eq_none h] at h1; cases h1
  show (sortWorldK enc k w b 0 m dk os).heap[c]? = some o
  unfold sortWorldK
  have hsz : (putRowK enc k (Go.Sort.ahead w m) b 0 dk).heap.size = w.heap.size := by simp [putRowK, putRow, mapBlock, Go.Sort.ahead]
  simp only [grow]
  rw [Array.getElem?_append_left (by rw [hsz]; exact hlt)]
  show ((Go.Sort.ahead w m).heap.modify b _)[c]? = some o
  rw [Array.getElem?_modify, if_neg (fun h => h2 h.symm)]
  exact h1
 refine (hc x y (St.start _ hW)).mono ?_
 rintro e w' ⟨rfl, hS⟩
 refine ⟨rfl, w'.drawn - (sortWorldK enc k w b 0 m dk os).drawn, w'.heap.extract (sortWorldK enc k w b 0 m dk os).heap.size w'.heap.size, ?_⟩
 generalize sortWorldK enc k w b 0 m dk os = W at hS ⊢
 have hd := hS.ord
 have hh : ∀ c, c < W.heap.size → w'.heap[c]? = W.heap[c]? := fun c hc => by
  have : hp W c = some W.heap[c] := by simp [hp, hc]
  rw [hS.ro_block this]; simp [hc]
 have hsz : W.heap.size ≤ w'.heap.size := by
  rcases Nat.lt_or_ge w'.heap.size W.heap.size with h | h
  ·have := hh _ h
   rw [Array.getElem?_eq_none (Nat.le_refl _)] at this
   simp [h] at this
  ·exact h
 have hheap : w'.heap = W.heap ++ w'.heap.extract W.heap.size w'.heap.size := by
  apply Array.ext_getElem?
  intro c
  by_cases q : c < W.heap.size
  ·rw [Array.getElem?_append_left q]; exact hh c q
  ·rw [Array.getElem?_append_right (by omega)]
   rw [Array.getElem?_extract]
   split
   ·congr 1; omega
   ·exact Array.getElem?_eq_none (by omega)
 have ho := hS.os
 have ht := hS.tape
 have hu := hS.output
 obtain ⟨a1, a2, a3, a4, a5⟩ := w'
 obtain ⟨b1, b2, b3, b4, b5⟩ := W
 simp only at hheap ho ht hu hd
 subst ho ht hu
 simp only [grow, World.drewN]
 congr 1
 omega
theorem sort_at (L : SlLaysF0.n6 P ρr) {k : Nat} (aE : ∀ w, (isAgg (ρr.t 24)).run P w = .ok true w) (zE : ∀ w, (Go.sizeOf (ρr.t 24)).run P w = .ok k w) {enc : α → List Value} (hk : ∀ x, (enc x).length = k) (h1 : ∀ x, ∀ v ∈ enc x, v.oneCell' = true) {cf : α → α → Int} (hO : SWO (ltOf cf)) (hT : ∀ x y, (ltOf cf) x y = false → (ltOf cf) y x = false → x = y) {g : Nat} (hg : callB P g = true)
  {Q : Rp α} (hQ : ∀ ρ c x, Q.ok ρ c x ↔ c = enc x) (hz : Q.sz = k)
  (hc : ∀ (x y : α) {w0 w : World} {ρ : Heap}, St w0 w [ro ρ] → Calls P g #[.agg (enc x).toArray, .agg (enc y).toArray] w fun e w' => e = .returned (.int .i64 (cf x y)) ∧ St w0 w' [ro ρ])
  {e : TypeId} {A : Option Addr} {n c : Nat} {xs : List α} {cs : List Value} (hlen : xs.length < 4611686018427387904) (hS : St w0 w (vec e Q.sz (.slice A n c) n cs :: ro ρ :: l)) (hR : RepL Q ρ xs cs) :
  Calls P (ρr.f 6) #[.slice A n c, .func (.func g) #[] #[]] w fun e' w' => e' = .returned (.tuple #[]) ∧ ∃ cs', RepL Q ρ (sortF cf xs) cs' ∧ St w0 w' (vec e Q.sz (.slice A n c) n cs' :: ro ρ :: l) := by
 have hn := hS.vec_n hR
 rcases hS.vec_base with ⟨rfl, rfl, rfl, rfl⟩ | ⟨b, rfl⟩
 ·refine (AnyF.slices_SortFunc_none L none 0 _ w).mono ?_
  rintro e' w' ⟨rfl, rfl⟩
  have : xs = [] := List.eq_nil_of_length_eq_zero hn.symm
  subst this
  exact ⟨rfl, [], by simp [sortF]; exact hR, hS⟩
 ·obtain ⟨cur, hc1, hc2, hc3, hc4, hS2⟩ := hS.vec_open
  have hcs := (repl_flat hQ).1 hR
  have hbk := hS2.block
  have hF := flatK_list hk xs
  rw [← hcs] at hF
  have hcl : cs.length = xs.length * k := by rw [hR.len, hz]
  have hH : HoldsK enc k w b 0 xs.toArray := by
   unfold HoldsK
   rw [hF]
   intro j hj
   have hj' : j < cs.length := by simpa using hj
   refine ⟨?_, hS2.unfrozen _⟩
   rw [Nat.zero_add]
   refine hS2.cell ?_
   have h5 : cs[j]? = some cs[j] := List.getElem?_eq_getElem hj'
   have h6 : cs[j]? = if j < n * Q.sz then cur[j]? else none := by rw [← List.getElem?_take, hc4]
   have h7 : j < n * Q.sz := by rw [hz, hn, ← hcl]; exact hj'
   rw [if_pos h7] at h6
   rw [← h6, h5]
   simp [hj']
  have hlt : b < w.heap.size := St.lt hS2
  have hne := St.ro_ne hS2
  have hlay : CmpLays P g #[] enc k cf b 0 xs.toArray.size w := cmp_lays hc hlt (hS2.pull 1).base (fun c' o ho => ⟨(hS2.pull 1).ro_block ho, fun h => by subst h; rw [hne] at ho; cases ho⟩)
  have hnx : n = xs.toArray.size := by simpa using hn
  have key := AnyQ.slices_SortFunc_total L k aE zE enc hk h1 cf hO g #[] b 0 c xs.toArray w (fun args w => run_callFunc hg args) hlay hH hlt (by simpa using hlen) hT
  rw [← hnx] at key
  refine key.mono ?_
  rintro e' w' ⟨rfl, m, os, rfl⟩
  refine ⟨rfl, (sortF cf xs).flatMap enc, (repl_flat hQ).2 rfl, ?_⟩
  have hso : (xs.toArray.toList.mergeSort fun x y => !(ltOf cf) y x) = sortF cf xs := rfl
  rw [hso]
  have hlen' : (sortF cf xs).length = xs.length := by unfold sortF; simp
  have hfl : flatK enc k (sortF cf xs).toArray = ⟨(sortF cf xs).flatMap enc⟩ := flatK_list hk _
  have hfs : (⟨(sortF cf xs).flatMap enc⟩ : Array Value).size = n * Q.sz := by
   rw [← hfl, size_flatK, hz]; simp [hlen', hn]
  obtain ⟨cur', k1, k2, k3⟩ := sort_world hS2 ⟨(sortF cf xs).flatMap enc⟩ (by rw [hfs, hc3]; exact Nat.mul_le_mul_right _ hc1) m os
  have k4 := k3.vec_close hc1 hc2 (by rw [k1, hc3])
  rw [← hfs, k2] at k4
  show St w0 (grow (putRow id (Go.Sort.ahead w m) b 0 (flatK enc k (sortF cf xs).toArray)) os) _
  rw [hfl]
  exact k4
end
end Go.Proofs.Ytnnmbmgnpdcefaa.X

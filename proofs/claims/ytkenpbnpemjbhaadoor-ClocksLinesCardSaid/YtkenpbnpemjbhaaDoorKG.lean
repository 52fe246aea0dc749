/- What is read is what was written. Plain. -/
import Derived.Test.YtkenpbnpemjbhaaDoorKF
namespace Go.Proofs.YtkenpbnpemjbhaaDoor.X
open Go Go.RowKit
set_option linter.unusedVariables false
set_option linter.unusedSimpArgs false
set_option linter.unusedSectionVars false
theorem mem_gt {α : Type} [Inhabited α] {xs : List α} {x : α} (h : x ∈ xs) : ∃ i, inb i xs.length ∧ gt xs i = x := by
  obtain ⟨k, hk, e⟩ := List.getElem_of_mem h
  exact ⟨k, ⟨by omega, by omega⟩, by simp [gt, List.getD_eq_getElem?_getD, hk, e]⟩
def addAll (ks : List Ln) (s : St4) : St4 := ks.foldl (fun s k => k.add s) s
theorem addAll_app (a b : List Ln) (s : St4) : addAll (a ++ b) s = addAll b (addAll a s) := List.foldl_append
theorem addAll_inp : ∀ (xs : List T_clocks_Input) (s : St4), addAll (xs.map Ln.inp) s = (s.1, s.2.1 ++ xs, s.2.2.1, s.2.2.2)
  | [], s => by simp [addAll]
  | x :: xs, s => by
    have := addAll_inp xs (Ln.add (.inp x) s)
    simp only [addAll, List.map_cons, List.foldl_cons] at *
    rw [this]; simp [Ln.add]
theorem addAll_out : ∀ (xs : List T_clocks_Output) (s : St4), addAll (xs.map Ln.out) s = (s.1, s.2.1, s.2.2.1 ++ xs, s.2.2.2)
  | [], s => by simp [addAll]
  | x :: xs, s => by
    have := addAll_out xs (Ln.add (.out x) s)
    simp only [addAll, List.map_cons, List.foldl_cons] at *
    rw [this]; simp [Ln.add]
theorem addAll_pth : ∀ (xs : List T_clocks_Path) (s : St4), addAll (xs.map Ln.pth) s = (s.1, s.2.1, s.2.2.1, s.2.2.2 ++ xs)
  | [], s => by simp [addAll]
  | x :: xs, s => by
    have := addAll_pth xs (Ln.add (.pth x) s)
    simp only [addAll, List.map_cons, List.foldl_cons] at *
    rw [this]; simp [Ln.add]
theorem text_free {k : Ln} (hk : k.Good) : Free 10 k.text := by
  obtain ⟨f1, f2, f3, f4, f5, f6, f7, f8⟩ := free_lit10
  cases k with
  | per n => exact f1.app (f8.app (num_ok (by have := hk.1; omega) hk.2).2.1)
  | inp x =>
    obtain ⟨w, a, b⟩ := hk
    exact f2.app (f8.app ((w.free (by decide)).app (f8.app ((num_ok a.1 a.2).2.1.app (f8.app (num_ok b.1 b.2).2.1)))))
  | out x =>
    obtain ⟨w, a⟩ := hk
    exact f3.app (f8.app ((w.free (by decide)).app (f8.app (num_ok a.1 a.2).2.1)))
  | pth x =>
    obtain ⟨w1, w2, a⟩ := hk
    have p1 := w1.free (c := 10) (by decide) f6 f7
    have p2 := w2.free (c := 10) (by decide) f6 f7
    rw [Ln.text]
    split
    · exact f4.app (f8.app (p1.app (f8.app p2)))
    · exact f5.app (f8.app ((num_ok a.1 a.2).2.1.app (f8.app (p1.app (f8.app p2)))))
theorem NoW.size {s : ByteArray} (h : NoW s) : (stW s).size ≤ 7 := by
  unfold stW
  by_cases e : s = (⟨#[]⟩ : ByteArray)
  · rw [if_pos e]; exact of_decide_eq_true rfl
  · rw [if_neg e]
    have := (h.resolve_left e).le
    exact (by simp only [ByteArray.size_append, sz_lit, List.size_toArray, List.length_cons, List.length_nil]; omega)
theorem text_size {k : Ln} (hk : k.Good) : k.text.size ≤ 100 := by
  cases k with
  | per n =>
    have a := (num_ok (by have := hk.1; omega) hk.2).2.2.2
    rw [Ln.text]
    exact (by simp only [ByteArray.size_append, sz_lit, List.size_toArray, List.length_cons, List.length_nil]; omega)
  | inp x =>
    obtain ⟨w, a, b⟩ := hk
    have w1 := w.le
    have a1 := (num_ok a.1 a.2).2.2.2
    have b1 := (num_ok b.1 b.2).2.2.2
    rw [Ln.text]
    exact (by simp only [ByteArray.size_append, sz_lit, List.size_toArray, List.length_cons, List.length_nil]; omega)
  | out x =>
    obtain ⟨w, a⟩ := hk
    have w1 := w.le
    have a1 := (num_ok a.1 a.2).2.2.2
    rw [Ln.text]
    exact (by simp only [ByteArray.size_append, sz_lit, List.size_toArray, List.length_cons, List.length_nil]; omega)
  | pth x =>
    obtain ⟨w1, w2, a⟩ := hk
    have p1 := w1.size
    have p2 := w2.size
    have a1 := (num_ok a.1 a.2).2.2.2
    rw [Ln.text]
    split <;> exact (by simp only [ByteArray.size_append, sz_lit, List.size_toArray, List.length_cons, List.length_nil]; omega)
theorem text_ne (k : Ln) : k.text ≠ (⟨#[]⟩ : ByteArray) := by
  intro e
  have h := congrArg ByteArray.size e
  have e0 : (⟨#[]⟩ : ByteArray).size = 0 := rfl
  rw [e0] at h
  cases k with
  | per n => rw [Ln.text] at h; simp only [ByteArray.size_append, sz_lit, List.size_toArray, List.length_cons, List.length_nil] at h; omega
  | inp x => rw [Ln.text] at h; simp only [ByteArray.size_append, sz_lit, List.size_toArray, List.length_cons, List.length_nil] at h; omega
  | out x => rw [Ln.text] at h; simp only [ByteArray.size_append, sz_lit, List.size_toArray, List.length_cons, List.length_nil] at h; omega
  | pth x =>
    rw [Ln.text] at h
    split at h
    · simp only [ByteArray.size_append, sz_lit, List.size_toArray, List.length_cons, List.length_nil] at h; omega
    · simp only [ByteArray.size_append, sz_lit, List.size_toArray, List.length_cons, List.length_nil] at h; omega
theorem asks_ok : Ok P_maskkeep4_asks (fun r => r = true) := ⟨true, by decide +kernel, rfl⟩
section
variable {n : T_api_Netlist} {ins flops outs : Int} (h : NetW n ins flops outs) (hi : 1 ≤ ins ∧ ins ≤ 5) (hf : 0 ≤ flops ∧ flops ≤ 4) (ho : 1 ≤ outs ∧ outs ≤ 5)
  {p : Bool} {l : T_clocks_Limits} (hl : LimW n p l) (hp : l.Period ≤ 200)
include h hi hf ho hl hp
theorem lines_good : ∀ k ∈ lines l, k.Good := by
  intro k hk
  simp only [lines, List.mem_append, List.mem_map, List.mem_singleton] at hk
  rcases hk with ((rfl | ⟨x, hx, rfl⟩) | ⟨x, hx, rfl⟩) | ⟨x, hx, rfl⟩
  · exact ⟨hl.per.1, hp⟩
  · obtain ⟨i, hin, rfl⟩ := mem_gt hx
    have hw := (hl.inp i hin).2
    have w1 := hw.lo
    have w2 := hw.le
    have w3 := hw.hi
    exact ⟨word_inp h hi hf ho hl hp hin, by omega, by omega⟩
  · obtain ⟨i, hin, rfl⟩ := mem_gt hx
    have hw := (hl.out i hin).2
    exact ⟨word_out h hi hf ho hl hp hin, by omega, by omega⟩
  · obtain ⟨i, hin, rfl⟩ := mem_gt hx
    obtain ⟨a, b, c⟩ := hl.pth i hin
    exact ⟨name_in h hi hf ho hl hp a, name_out h hi hf ho hl hp b, by omega, by omega⟩
theorem lines_len : (lines l).length ≤ 14 := by
  have a := hl.inL
  have b := hl.outL
  have c := hl.pL
  have d := h.inL
  have e := h.outL
  simp only [lines, List.length_append, List.length_map, List.length_singleton]
  omega
theorem Text_ok : Ok (P_clocks_Text l) (fun r => r = (unl ((lines l).map Ln.text), 0)) := by
  unfold P_clocks_Text
  refine ok_bd (CCheck_ok h hi hf ho hl hp) ?_
  rintro _ rfl
  refine ok_f (by simp) (ok_bd (write_ok h hi hf ho hl hp) ?_)
  rintro _ ⟨rfl, -, -⟩
  exact ok_some rfl
end
end Go.Proofs.YtkenpbnpemjbhaaDoor.X

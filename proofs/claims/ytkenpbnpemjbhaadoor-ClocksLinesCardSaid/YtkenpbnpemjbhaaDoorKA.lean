/- strings.Split of texts that are put together, and numerals. Plain. -/
import Derived.Test.YtkenpbnpemjbhaaDoorPA
import Derived.Test.YtkenpbnpemjbhaaDoorYQ
import Derived.Test.YtkenpbnpemjbhaaDoorYV
namespace Go.Proofs.YtkenpbnpemjbhaaDoor.X
open Go Go.RowKit
set_option linter.unusedVariables false
set_option linter.unusedSimpArgs false
set_option linter.unusedSectionVars false
theorem sz_lit (a : Array UInt8) : (⟨a⟩ : ByteArray).size = a.size := rfl
theorem gt_snoc' {α : Type} [Inhabited α] {xs : List α} {x : α} {i : Int} (h : inb i (xs ++ [x]).length) : (inb i xs.length ∧ gt (xs ++ [x]) i = gt xs i) ∨ (i = xs.length ∧ gt (xs ++ [x]) i = x) := by
  obtain ⟨h0, h1⟩ := h
  simp only [List.length_append, List.length_singleton] at h1
  by_cases e : i = xs.length
  · exact .inr ⟨e, gt_app_1 e⟩
  · exact .inl ⟨⟨h0, by omega⟩, gt_app_l (by omega)⟩
/-- Of each element, with its number. -/
def All {α : Type} [Inhabited α] (p : Int → α → Prop) (xs : List α) : Prop := ∀ i, inb i xs.length → p i (gt xs i)
theorem All.nil {α : Type} [Inhabited α] {p : Int → α → Prop} : All p [] := fun i hi => by obtain ⟨a, b⟩ := hi; simp at b; omega
theorem All.snoc {α : Type} [Inhabited α] {p : Int → α → Prop} {xs : List α} {x : α} (h : All p xs) (hx : p xs.length x) : All p (xs ++ [x]) := by
  intro i hi
  rcases gt_snoc' hi with ⟨h1, e⟩ | ⟨h1, e⟩
  · rw [e]; exact h i h1
  · rw [e, h1]; exact hx
theorem All.mono {α : Type} [Inhabited α] {p q : Int → α → Prop} {xs : List α} (h : All p xs) (hpq : ∀ i x, inb i xs.length → p i x → q i x) : All q xs := fun i hi => hpq i _ hi (h i hi)
/-- A byte does not stand in a string. -/
def Free (c : UInt8) (s : ByteArray) : Prop := c ∉ s.data.toList
theorem indexByte_free {c : UInt8} : ∀ {l : List UInt8}, c ∉ l → Go.Lib.indexByte l c = -1
  | [], _ => rfl
  | b :: l, h => by
    have h1 : ¬ (b == c) = true := fun e => h (by simp [beq_iff_eq.1 e])
    have h2 := indexByte_free (l := l) (fun q => h (List.mem_cons_of_mem _ q))
    rw [Go.Lib.indexByte, if_neg h1, h2]; rfl
theorem indexByte_at {c : UInt8} {b : List UInt8} : ∀ {a : List UInt8}, c ∉ a → Go.Lib.indexByte (a ++ c :: b) c = a.length
  | [], _ => by simp [Go.Lib.indexByte]
  | x :: a, h => by
    have h1 : ¬ (x == c) = true := fun e => h (by simp [beq_iff_eq.1 e])
    have h2 := indexByte_at (b := b) (a := a) (fun q => h (List.mem_cons_of_mem _ q))
    rw [List.cons_append, Go.Lib.indexByte, if_neg h1, h2, if_neg (by simp only [beq_iff_eq]; omega)]
    simp
theorem ba_ext {x y : ByteArray} (h : x.data.toList = y.data.toList) : x = y := ByteArray.ext (Array.toList_inj.1 h)
theorem indexB_free {c : UInt8} {s : ByteArray} (h : Free c s) : Go.Lib.indexB s ⟨#[c]⟩ = -1 := by
  show Go.Lib.index s.data.toList [c] = -1
  rw [Go.Lib.index_one]
  exact indexByte_free h
theorem indexB_at {c : UInt8} {a b : ByteArray} (h : Free c a) : Go.Lib.indexB (a ++ (⟨#[c]⟩ ++ b)) ⟨#[c]⟩ = (a.size : Int) := by
  show Go.Lib.index (a ++ (⟨#[c]⟩ ++ b)).data.toList [c] = _
  rw [Go.Lib.index_one, show (a ++ ((⟨#[c]⟩ : ByteArray) ++ b)).data.toList = a.data.toList ++ c :: b.data.toList by simp [ByteArray.data_append], indexByte_at h, Go.Lib.size_eq]
theorem splitS_free {c : UInt8} {s : ByteArray} (h : Free c s) : splitS s ⟨#[c]⟩ = [s] := Go.Lib.splitB_miss _ _ _ _ (indexB_free h)
theorem splitS_at {c : UInt8} {a b : ByteArray} (h : Free c a) : splitS (a ++ (⟨#[c]⟩ ++ b)) ⟨#[c]⟩ = a :: splitS b ⟨#[c]⟩ := by
  have hi := indexB_at (b := b) h
  have h1 : 1 ≤ (⟨#[c]⟩ : ByteArray).size := Nat.le_refl 1
  have hz : (⟨#[c]⟩ : ByteArray).size = 1 := rfl
  have e1 : (a ++ (⟨#[c]⟩ ++ b)).extract 0 (a.size + 0) = a := ba_ext (by
    rw [Go.Lib.extract_data, show (a ++ ((⟨#[c]⟩ : ByteArray) ++ b)).data.toList = a.data.toList ++ c :: b.data.toList by simp [ByteArray.data_append], show a.size + 0 - 0 = a.data.toList.length by rw [Go.Lib.size_eq]; rfl, List.drop_zero, List.take_left])
  have e2 : (a ++ (⟨#[c]⟩ ++ b)).extract (a.size + (⟨#[c]⟩ : ByteArray).size) (a ++ (⟨#[c]⟩ ++ b)).size = b := ba_ext (by
    rw [Go.Lib.extract_to_end, show (a ++ ((⟨#[c]⟩ : ByteArray) ++ b)).data.toList = (a.data.toList ++ [c]) ++ b.data.toList by simp [ByteArray.data_append], hz, show a.size + 1 = (a.data.toList ++ [c]).length by rw [Go.Lib.size_eq, List.length_append]; rfl, List.drop_left])
  have hc := Go.Lib.countB_hit _ _ a.size h1 hi
  rw [e2] at hc
  show Go.Lib.splitB _ 0 (Go.Lib.countB _ _) _ = _
  rw [hc, Nat.add_comm, Go.Lib.splitB_hit _ _ _ _ _ hi, e1, e2]
  rfl
theorem Free.app {c : UInt8} {a b : ByteArray} (ha : Free c a) (hb : Free c b) : Free c (a ++ b) := by
  unfold Free at *
  simp only [ByteArray.data_append, Array.toList_append, List.mem_append]
  exact fun h => h.elim ha hb
/-- Lines, each with its end. -/
def unl : List ByteArray → ByteArray
  | [] => ⟨#[]⟩
  | x :: xs => x ++ (⟨#[10]⟩ ++ unl xs)
theorem unl_snoc (x : ByteArray) : ∀ xs : List ByteArray, unl (xs ++ [x]) = unl xs ++ (x ++ ⟨#[10]⟩)
  | [] => by
    show x ++ (⟨#[10]⟩ ++ (⟨#[]⟩ : ByteArray)) = ⟨#[]⟩ ++ (x ++ ⟨#[10]⟩)
    exact ba_ext (by simp [ByteArray.data_append])
  | y :: xs => by
    rw [List.cons_append, unl, unl, unl_snoc x xs]
    simp only [ByteArray.append_assoc]
theorem split_unl : ∀ {ls : List ByteArray}, (∀ x ∈ ls, Free 10 x) → splitS (unl ls) ⟨#[10]⟩ = ls ++ [⟨#[]⟩]
  | [], _ => splitS_free (s := ⟨#[]⟩) (by simp [Free])
  | x :: xs, h => by
    rw [unl, splitS_at (h x (by simp)), split_unl (fun y hy => h y (by simp [hy]))]
    rfl
/-- Small numerals. -/
theorem num_dec : ((List.range 201).all fun n => decide (atoi (itoa (n : Int)) = some (n : Int)) && (itoa (n : Int)).data.toList.all (fun b => decide (b ≠ 10) && decide (b ≠ 32)) && decide ((itoa (n : Int)).size ≤ 3)) = true := by decide +kernel
theorem num_ok {n : Int} (h0 : 0 ≤ n) (h1 : n ≤ 200) : atoi (itoa n) = some n ∧ Free 10 (itoa n) ∧ Free 32 (itoa n) ∧ (itoa n).size ≤ 3 := by
  obtain ⟨k, rfl⟩ := Int.eq_ofNat_of_zero_le h0
  have := List.all_eq_true.1 num_dec k (List.mem_range.2 (by omega))
  simp only [Bool.and_eq_true, decide_eq_true_eq, List.all_eq_true] at this
  obtain ⟨⟨a, b⟩, c⟩ := this
  exact ⟨a, fun h => (b _ h).1 rfl, fun h => (b _ h).2 rfl, c⟩
theorem itoaP_ok {n : Int} (h0 : 0 ≤ n) (h1 : n ≤ 200) : Ok (P_strconv_Itoa n) (fun r => r = itoa n) := by
  unfold P_strconv_Itoa
  exact ok_ck ⟨h0, by omega⟩ (ok_some rfl)
theorem atoiP_ok {n : Int} (h0 : 0 ≤ n) (h1 : n ≤ 200) : Ok (P_strconv_Atoi (itoa n)) (fun r => r = n) := by
  unfold P_strconv_Atoi
  exact ⟨n, (num_ok h0 h1).1, rfl⟩
/-- A name: no blank, no end of line, of at most six bytes. -/
structure Word (s : ByteArray) : Prop where
  pos : 1 ≤ s.size
  le : s.size ≤ 6
  byte : ∀ i, inb i s.size → 33 ≤ byteAt s i ∧ byteAt s i ≤ 126
theorem Word.free {s : ByteArray} (h : Word s) {c : UInt8} (hc : c.toNat < 33) : Free c s := by
  intro hm
  obtain ⟨i, hi, e⟩ := List.getElem_of_mem hm
  have hs : i < s.size := by rw [Go.Lib.size_eq]; exact hi
  have h1 := (h.byte i ⟨by omega, by omega⟩).1
  have e2 : byteAt s (i : Int) = (c.toNat : Int) := by
    unfold byteAt
    rw [Array.getD_eq_getD_getElem?, Int.toNat_natCast, ← Array.getElem?_toList, List.getElem?_eq_getElem hi, e]
    rfl
  omega
end Go.Proofs.YtkenpbnpemjbhaaDoor.X

/- Plain programs (a check, a step, a loop: each may fail), and how Go's values tell plain data. Lemmas over any program. -/
import Derived.Test.YtgmjhlpjlggpiaaDoorXF
import Derived.Deep.AppendSrc
namespace Go.Proofs.YtgmjhlpjlggpiaaDoor.X
open Go Go.RowKit
set_option linter.unusedVariables false
set_option linter.unusedSimpArgs false

/-! ### Plain programs -/
section
variable {α β σ : Type}
def ck (c : Prop) [Decidable c] (k : Option β) : Option β := if c then k else none
theorem ck_s {c : Prop} [Decidable c] {k : Option β} {r : β} (h : ck c k = some r) : c ∧ k = some r := by
 unfold ck at h
 split at h
 ·exact ⟨‹_›, h⟩
 ·cases h
def bd (m : Option α) (k : α → Option β) : Option β := match m with | some x => k x | none => none
theorem bd_s {m : Option α} {k : α → Option β} {r : β} (h : bd m k = some r) : ∃ x, m = some x ∧ k x = some r := by
 cases m with
 | none => cases h
 | some x => exact ⟨x, rfl, h⟩
def lv (v : α) (k : α → Option β) : Option β := k v
theorem lv_s {v : α} {k : α → Option β} {r : β} (h : lv v k = some r) : ∃ x, x = v ∧ k x = some r := ⟨v, rfl, h⟩
abbrev I64 (x : Int) : Prop := -9223372036854775808 ≤ x ∧ x ≤ 9223372036854775807
def ar (v : Int) (k : Int → Option β) : Option β := if I64 v then k v else none
theorem ar_s {v : Int} {k : Int → Option β} {r : β} (h : ar v k = some r) : ∃ x, (x = v ∧ I64 v) ∧ k x = some r := by
 unfold ar at h
 split at h
 ·exact ⟨v, ⟨rfl, ‹_›⟩, h⟩
 ·cases h
theorem it_t {c : Prop} [Decidable c] {a b : Option β} {r : β} (hc : c) (h : (if c then a else b) = some r) : a = some r := by rwa [if_pos hc] at h
theorem it_f {c : Prop} [Decidable c] {a b : Option β} {r : β} (hc : ¬ c) (h : (if c then a else b) = some r) : b = some r := by rwa [if_neg hc] at h
theorem it_bf {c : Bool} {a b : Option β} {r : β} (hc : c = false) (h : (if c = true then a else b) = some r) : b = some r := by subst hc; simpa using h
def gd [Inhabited α] (q : Bool) (m : Option α) : Option α := match q with | true => m | false => some default
theorem gd_t [Inhabited α] {q : Bool} {m : Option α} {r : α} (h : gd q m = some r) (hq : q = true) : m = some r := by subst hq; exact h
/-- A loop: a round goes on with a state, or ends with a result. -/
def lp (body : σ → Option (σ ⊕ β)) : Nat → σ → Option β
 | 0, _ => none
 | n + 1, s => match body s with
  | some (.inl s') => lp body n s'
  | some (.inr b) => some b
  | none => none
theorem lp_s {body : σ → Option (σ ⊕ β)} {k : Nat} {s : σ} {r : β} (h : lp body k s = some r) :
  ∃ k' o, k = k' + 1 ∧ body s = some o ∧ (match o with | .inl s' => lp body k' s' = some r | .inr b => b = r) := by
 cases k with
 | zero => cases h
 | succ k =>
  simp only [lp] at h
  cases hb : body s with
  | none => rw [hb] at h; cases h
  | some o =>
   rw [hb] at h
   cases o with
   | inl s' => exact ⟨k, _, rfl, rfl, h⟩
   | inr b => cases h; exact ⟨k, _, rfl, rfl, rfl⟩
@[irreducible] def fuel : Nat := 4611686018427387904
/-- Reading and setting. -/
abbrev inb (i : Int) (n : Nat) : Prop := 0 ≤ i ∧ i < n
def gt [Inhabited α] (xs : List α) (i : Int) : α := xs.getD i.toNat default
def stt (xs : List α) (i : Int) (x : α) : List α := xs.set i.toNat x
theorem stt_length (xs : List α) (i : Int) (x : α) : (stt xs i x).length = xs.length := by simp [stt]
theorem inb_lt {i : Int} {n : Nat} (h : inb i n) : i.toNat < n := by obtain ⟨h1, h2⟩ := h; omega
theorem gt_get [Inhabited α] {xs : List α} {i : Int} (h : inb i xs.length) : gt xs i = xs[i.toNat]'(inb_lt h) := by
 have := inb_lt h
 simp [gt, this]
abbrev apOk (by_ n : Nat) : Prop := n * by_ ≤ 140737488355328
abbrev mkOk (by_ : Nat) (c : Int) : Prop := 0 ≤ c ∧ (by_ : Int) * c ≤ 281474976710656
end

/-! ### How values tell data -/
theorem over_length : ∀ (news vs : List Value) (o : Nat), (over vs o news).length = vs.length
 | [], _, _ => rfl
 | v :: r, vs, o => by simp only [over]; rw [over_length r]; simp
theorem over_take : ∀ (news vs : List Value) (o m : Nat), (over vs o news).take m = over (vs.take m) o news
 | [], _, _, _ => rfl
 | v :: r, vs, o, m => by simp only [over]; rw [over_take r, List.take_set]
theorem over_mid : ∀ (news c1 c c2 : List Value) (o : Nat), o + news.length ≤ c.length → over (c1 ++ c ++ c2) (c1.length + o) news = c1 ++ over c o news ++ c2
 | [], _, _, _, _, _ => rfl
 | v :: r, c1, c, c2, o, h => by
  simp only [List.length_cons] at h
  simp only [over]
  have e : (c1 ++ c ++ c2).set (c1.length + o) v = c1 ++ c.set o v ++ c2 := by
   rw [List.append_assoc, List.set_append_right _ _ (by omega), show c1.length + o - c1.length = o by omega, List.set_append_left _ _ (by omega), List.append_assoc]
  rw [e, show c1.length + o + 1 = c1.length + (o + 1) by omega]
  exact over_mid r c1 (c.set o v) c2 (o + 1) (by simp; omega)
theorem over_all : ∀ (news c : List Value) (o : Nat) (pre : List Value), pre.length = o → news.length = c.length → over (pre ++ c) o news = pre ++ news
 | [], c, o, pre, _, h => by
  have : c = [] := List.eq_nil_of_length_eq_zero (by simpa using h.symm)
  subst this; rfl
 | v :: r, [], o, pre, _, h => by simp at h
 | v :: r, c0 :: c, o, pre, hp, h => by
  simp only [over]
  have e : (pre ++ c0 :: c).set o v = (pre ++ [v]) ++ c := by rw [List.set_append_right _ _ (by omega)]; simp [hp]
  rw [e, over_all r c (o + 1) (pre ++ [v]) (by simp [hp]) (by simpa using h)]
  simp

structure Rp (α : Type) where
 sz : Nat
 ok : Heap → List Value → α → Prop
 pos : 0 < sz
 len : ∀ {ρ cs x}, ok ρ cs x → cs.length = sz
 le : ∀ {ρ ρ' cs x}, ok ρ cs x → Le ρ ρ' → ok ρ' cs x
 one : ∀ {ρ cs x}, ok ρ cs x → ∀ v ∈ cs, v.oneCell' = true
/-- One cell, that the data tell alone. -/
def RpV {α : Type} (f : α → Value) (h : ∀ x, (f x).oneCell' = true) : Rp α :=
 ⟨1, fun _ cs x => cs = [f x], by decide, fun h => by rw [h]; rfl, fun h _ => h, fun {ρ cs x} e v hv => by rw [e] at hv; simp only [List.mem_singleton] at hv; rw [hv]; exact h x⟩
def RpI (k : IntKind) : Rp Int := RpV (Value.int k) (fun _ => rfl)
section
variable {α : Type} {R : Rp α} {ρ ρ' : Heap}
def RepL (R : Rp α) (ρ : Heap) : List α → List Value → Prop
 | [], cs => cs = []
 | x :: xs, cs => ∃ c1 c2, cs = c1 ++ c2 ∧ R.ok ρ c1 x ∧ RepL R ρ xs c2
theorem RepL.nil : RepL R ρ [] [] := rfl
theorem RepL.len : ∀ {xs : List α} {cs : List Value}, RepL R ρ xs cs → cs.length = xs.length * R.sz
 | [], cs, h => by cases h; simp
 | x :: xs, cs, h => by
  obtain ⟨c1, c2, rfl, h1, h2⟩ := h
  rw [List.length_append, R.len h1, RepL.len h2, List.length_cons, Nat.add_mul, Nat.one_mul, Nat.add_comm]
theorem RepL.le : ∀ {xs : List α} {cs : List Value}, RepL R ρ xs cs → Le ρ ρ' → RepL R ρ' xs cs
 | [], cs, h, _ => h
 | x :: xs, cs, ⟨c1, c2, e, h1, h2⟩, hle => ⟨c1, c2, e, R.le h1 hle, RepL.le h2 hle⟩
theorem RepL.one : ∀ {xs : List α} {cs : List Value}, RepL R ρ xs cs → ∀ v ∈ cs, v.oneCell' = true
 | [], cs, h, v, hv => by cases h; cases hv
 | x :: xs, cs, ⟨c1, c2, e, h1, h2⟩, v, hv => by
  subst e
  rcases List.mem_append.1 hv with hv | hv
  ·exact R.one h1 v hv
  ·exact RepL.one h2 v hv
theorem RepL.app : ∀ {xs ys : List α} {cs ds : List Value}, RepL R ρ xs cs → RepL R ρ ys ds → RepL R ρ (xs ++ ys) (cs ++ ds)
 | [], ys, cs, ds, h, k => by cases h; exact k
 | x :: xs, ys, cs, ds, ⟨c1, c2, e, h1, h2⟩, k => ⟨c1, c2 ++ ds, by rw [e, List.append_assoc], h1, RepL.app h2 k⟩
theorem RepL.cons {x : α} {xs : List α} {cs ds : List Value} (h : R.ok ρ cs x) (k : RepL R ρ xs ds) : RepL R ρ (x :: xs) (cs ++ ds) := ⟨cs, ds, rfl, h, k⟩
theorem RepL.split : ∀ {xs : List α} {cs : List Value} {i : Nat} (h : RepL R ρ xs cs) (hi : i < xs.length), ∃ c1 c c2, cs = c1 ++ c ++ c2 ∧ c1.length = i * R.sz ∧ R.ok ρ c xs[i] ∧
  ∀ {ρ' x' c'}, Le ρ ρ' → R.ok ρ' c' x' → RepL R ρ' (xs.set i x') (c1 ++ c' ++ c2)
 | [], _, _, _, hi => absurd hi (by simp)
 | x :: xs, cs, 0, ⟨c1, c2, e, h1, h2⟩, hi => ⟨[], c1, c2, by simp [e], by simp, h1, fun {ρ' x' c'} hle hok => ⟨c', c2, by simp, hok, h2.le hle⟩⟩
 | x :: xs, cs, i + 1, ⟨c1, c2, e, h1, h2⟩, hi => by
  obtain ⟨d1, d, d2, e2, hl, hok, hset⟩ := RepL.split (i := i) h2 (by simpa using hi)
  refine ⟨c1 ++ d1, d, d2, by rw [e, e2]; simp, ?_, by simpa using hok, fun {ρ' x' c'} hle hok' => ⟨c1, d1 ++ c' ++ d2, by simp, R.le h1 hle, hset hle hok'⟩⟩
  rw [List.length_append, R.len h1, hl, Nat.add_mul, Nat.one_mul, Nat.add_comm]
variable [Inhabited α]
theorem RepL.get {xs : List α} {cs : List Value} (h : RepL R ρ xs cs) {i : Int} (hb : inb i xs.length) : ∃ c, R.ok ρ c (gt xs i) ∧ ∀ k v, c[k]? = some v → cs[i.toNat * R.sz + k]? = some v := by
 obtain ⟨c1, c, c2, rfl, hl, hok, _⟩ := h.split (inb_lt hb)
 refine ⟨c, by rw [gt_get hb]; exact hok, fun k v hk => ?_⟩
 have hlt : k < c.length := (List.getElem?_eq_some_iff.1 hk).1
 rw [List.append_assoc, List.getElem?_append_right (by omega), hl, show i.toNat * R.sz + k - i.toNat * R.sz = k by omega, List.getElem?_append_left hlt]
 exact hk
omit [Inhabited α] in
theorem RepL.set {xs : List α} {cs c' : List Value} {i : Int} {x' : α} (h : RepL R ρ xs cs) (hb : inb i xs.length) (hle : Le ρ ρ') (hok : R.ok ρ' c' x') : RepL R ρ' (stt xs i x') (over cs (i.toNat * R.sz) c') := by
 obtain ⟨c1, c, c2, rfl, hl, h1, hs⟩ := h.split (inb_lt hb)
 have := over_mid c' c1 c c2 0 (by rw [R.len h1, R.len hok]; omega)
 rw [Nat.add_zero, hl] at this
 rw [this]
 have e := over_all c' c 0 [] rfl (by rw [R.len h1, R.len hok])
 simp only [List.nil_append] at e
 rw [e]
 exact hs hle hok
theorem RepL.put {xs : List α} {cs news : List Value} {i : Int} {o : Nat} {x' : α} (h : RepL R ρ xs cs) (hb : inb i xs.length) (ho : o + news.length ≤ R.sz) (hle : Le ρ ρ') (hok : ∀ c, R.ok ρ c (gt xs i) → R.ok ρ' (over c o news) x') :
  RepL R ρ' (stt xs i x') (over cs (i.toNat * R.sz + o) news) := by
 obtain ⟨c1, c, c2, rfl, hl, h1, hs⟩ := h.split (inb_lt hb)
 have := over_mid news c1 c c2 o (by rw [R.len h1]; exact ho)
 rw [hl] at this
 rw [this]
 exact hs hle (hok c (by rw [gt_get hb]; exact h1))
omit [Inhabited α] in
theorem RepL.rep {z : List Value} {x : α} (h : R.ok ρ z x) : ∀ n : Nat, RepL R ρ (List.replicate n x) (List.replicate n z).flatten
 | 0 => rfl
 | n + 1 => ⟨z, _, by simp [List.replicate_succ], h, RepL.rep h n⟩
omit [Inhabited α] in
theorem RepL.part : ∀ {xs : List α} {cs : List Value} (a b : Nat), RepL R ρ xs cs → RepL R ρ ((xs.drop a).take b) ((cs.drop (a * R.sz)).take (b * R.sz))
 | [], cs, a, b, h => by cases h; simp; exact rfl
 | x :: xs, cs, 0, 0, ⟨c1, c2, e, h1, h2⟩ => by simp; exact rfl
 | x :: xs, cs, 0, b + 1, ⟨c1, c2, e, h1, h2⟩ => by
  have := RepL.part 0 b h2
  simp only [List.drop_zero, Nat.zero_mul] at this ⊢
  refine ⟨c1, c2.take (b * R.sz), ?_, h1, this⟩
  rw [e, Nat.add_mul, Nat.one_mul, List.take_append, R.len h1, List.take_of_length_le (by rw [R.len h1]; omega), show b * R.sz + R.sz - R.sz = b * R.sz by omega]
 | x :: xs, cs, a + 1, b, ⟨c1, c2, e, h1, h2⟩ => by
  have := RepL.part a b h2
  simp only [List.drop_succ_cons]
  have ed : cs.drop ((a + 1) * R.sz) = c2.drop (a * R.sz) := by
   rw [e, Nat.add_mul, Nat.one_mul, show a * R.sz + R.sz = c1.length + a * R.sz by rw [R.len h1]; omega, List.drop_length_add_append]
  rw [ed]
  exact this

/-- A slice whose elements are never written again. -/
def RdS (R : Rp α) (ρ : Heap) (A : Option Addr) (n c : Nat) (xs : List α) : Prop := xs.length = n ∧ n ≤ c ∧ ∃ cs, RepL R ρ xs cs ∧ RdC ρ A cs
omit [Inhabited α] in
theorem RdS.le {A : Option Addr} {n c : Nat} {xs : List α} (h : RdS R ρ A n c xs) (hle : Le ρ ρ') : RdS R ρ' A n c xs := by
 obtain ⟨h1, h2, cs, h3, h4⟩ := h
 exact ⟨h1, h2, cs, h3.le hle, h4.le hle⟩
omit [Inhabited α] in
theorem RdS.n {A : Option Addr} {n c : Nat} {xs : List α} (h : RdS R ρ A n c xs) : n = xs.length := h.1.symm
omit [Inhabited α] in
theorem RdS.nil {A : Option Addr} {c : Nat} : RdS R ρ A 0 c [] := ⟨rfl, Nat.zero_le _, [], rfl, RdC.nil⟩
theorem RdS.get {A : Option Addr} {n c : Nat} {xs : List α} (h : RdS R ρ A n c xs) {i : Int} (hb : inb i xs.length) :
  ∃ cs, R.ok ρ cs (gt xs i) ∧ ∀ k v, cs[k]? = some v → cellOf ρ (((adr A).add (i.toNat * R.sz)).add k) = some v := by
 obtain ⟨_, _, cs, h1, h2⟩ := h
 obtain ⟨c, hok, hc⟩ := h1.get hb
 exact ⟨c, hok, fun k v hk => by rw [add_add]; exact (RdC.at h2 (hc k v hk)).2⟩
theorem RdS.some {A : Option Addr} {n c : Nat} {xs : List α} (h : RdS R ρ A n c xs) {i : Int} (hb : inb i xs.length) : A = .some (adr A) := by
 obtain ⟨_, _, cs, h1, h2⟩ := h
 obtain ⟨c, hok, hc⟩ := h1.get hb
 have hl := R.len hok
 have hp := R.pos
 match c, hl with
 | [], hl => simp at hl; omega
 | v :: c, _ => exact (RdC.at h2 (hc 0 v rfl)).1
omit [Inhabited α] in
theorem RdS.part {A : Option Addr} {n c : Nat} {xs : List α} (h : RdS R ρ A n c xs) (a b : Nat) (hab : a ≤ b) (hb : b ≤ xs.length) : RdS R ρ (if c - a = 0 then A else A.map (·.add (a * R.sz))) (b - a) (c - a) ((xs.drop a).take (b - a)) := by
 obtain ⟨h1, h2, cs, h3, h4⟩ := h
 refine ⟨by simp; omega, by omega, _, h3.part a (b - a), fun j v hj => ?_⟩
 have hl := h3.len
 have hlt := (List.getElem?_eq_some_iff.1 hj).1
 simp only [List.getElem?_take] at hj
 split at hj
 ·rename_i hjl
  rw [List.getElem?_drop] at hj
  obtain ⟨ad, rfl, hc⟩ := h4 _ _ hj
  by_cases hca : c - a = 0
  ·have : b - a = 0 := by omega
   rw [this] at hjl; omega
  ·rw [if_neg hca]
   refine ⟨ad.add (a * R.sz), rfl, ?_⟩
   rw [add_add]; exact hc
 ·cases hj
/-- A slice's cell. -/
def RpSl (R : Rp α) : Rp (List α) where
 sz := 1
 ok ρ cs xs := ∃ A n c, cs = [.slice A n c] ∧ RdS R ρ A n c xs
 pos := by decide
 len := by rintro ρ cs x ⟨A, n, c, rfl, _⟩; rfl
 le := by rintro ρ ρ' cs x ⟨A, n, c, rfl, h⟩ hle; exact ⟨A, n, c, rfl, h.le hle⟩
 one := by rintro ρ cs x ⟨A, n, c, rfl, h⟩ v hv; simp only [List.mem_singleton] at hv; subst hv; rfl

/-! ### Slices that are one's own -/
variable {w0 w : World} {l : List Assn} {e : TypeId} {A : Option Addr} {n c sz : Nat} {xs : List α} {cs : List Value}
omit [Inhabited α] in
theorem St.vec_n (hS : St w0 w (vec e R.sz (.slice A n c) n cs :: l)) (h : RepL R ρ xs cs) : n = xs.length := by
 have h1 := hS.vec_slice.1
 rw [h.len] at h1
 exact (Nat.eq_of_mul_eq_mul_right R.pos h1).symm
omit [Inhabited α] in
theorem St.vec_get (hS : St w0 w (vec e R.sz (.slice A n c) n cs :: l)) {j k : Nat} {v : Value} (hc : cs[j * R.sz + k]? = some v) : w.cell? (((adr A).add (j * R.sz)).add k) = some v := by
 obtain ⟨a, rfl, h⟩ := hS.vec_cell hc
 rw [add_add]; exact h
theorem St.vec_some (hS : St w0 w (vec e R.sz (.slice A n c) n cs :: l)) (h : RepL R ρ xs cs) {i : Int} (hb : inb i xs.length) : A = some (adr A) := by
 obtain ⟨c, hok, hc⟩ := h.get hb
 have hl := R.len hok
 have hp := R.pos
 match c, hl with
 | [], hl => simp at hl; omega
 | v :: c, _ => obtain ⟨a, rfl, _⟩ := hS.vec_cell (hc 0 v rfl); rfl
omit [Inhabited α] in
theorem St.vec_fz (hS : St w0 w (vec e R.sz (.slice A n c) n cs :: ro ρ :: l)) (h : RepL R ρ xs cs) : ∃ ρ', Le ρ ρ' ∧ RdS R ρ' A n c xs ∧ St w0 w (ro ρ' :: l) := by
 have hn := hS.vec_n h
 obtain ⟨ρ', A', c', hle, hv, hc, hr, hl, hS'⟩ := hS.vec_keep
 injection hv with h1 h2 h3
 subst h1; subst h3
 exact ⟨ρ', hle, ⟨hn.symm, hc, cs, h.le hle, hr⟩, hS'⟩
omit [Inhabited α] in
/-- Lent: read by others for a while, then one's own again. -/
theorem St.lend (hS : St w0 w (vec e R.sz (.slice A n c) n cs :: ro ρ :: l)) (h : RepL R ρ xs cs) :
  ∃ ρ', Le ρ ρ' ∧ RdS R ρ' A n c xs ∧ St w0 w (ro ρ' :: l) ∧ ∀ {w' l'}, St w0 w' (ro ρ' :: l') → St w0 w' (vec e R.sz (.slice A n c) n cs :: ro ρ :: l') := by
 have hn := hS.vec_n h
 have hx := hS.vec_slice.1
 obtain ⟨F, ⟨hl, h1⟩, _⟩ := hS.head
 rcases h1 with ⟨hv, h0, _⟩ | ⟨g, cap, cur, hv, rfl, hg, hc, hm, hs, htake⟩
 ·injection hv with hA _ hcc
  subst hA; subst hcc; subst h0
  have hcs : cs = [] := List.eq_nil_of_length_eq_zero (by simpa using hl)
  subst hcs
  have hxs : xs = [] := List.eq_nil_of_length_eq_zero (by omega)
  subst hxs
  exact ⟨ρ, .refl ρ, .nil, hS.drop, fun h => h.vec_nil e R.sz⟩
 ·injection hv with hA _ hcc
  subst hA; subst hcc
  have h' : St w0 w (blk g (.cells cur e (0, 0)) :: ro ρ :: l) := by
   refine hS.tell fun F hF => ?_
   rcases hF.2 with ⟨hv, _⟩ | ⟨g', cap', cur', hv, rfl, hg', _⟩
   ·cases hv
   ·injection hv with hA _ _
    injection hA with hA
    injection hA with hA _ _
    subst hA
    exact ⟨rfl, hg⟩
  have hd : ρ g = none := by
   obtain ⟨ps, hmm, hh, hnn, hb⟩ := h'.out
   match ps, hmm with
   | [p], hmm => simp at hmm
   | p :: q :: ps, hmm =>
    simp only [List.map_cons, List.cons.injEq] at hmm
    obtain ⟨e1, e2, hmm⟩ := hmm
    have hp := hh p (by simp)
    have hq := hh q (by simp)
    rw [e1] at hp
    rw [e2] at hq
    cases hr : ρ g with
    | none => rfl
    | some o' =>
     simp only [List.flatMap_cons] at hnn
     have hbp : g ∈ p.2 := by rw [hp.1]; simp
     exact absurd rfl ((List.nodup_append.1 hnn).2.2 g hbp g (List.mem_append_left _ (hq.1 g o' hr).2))
  let o : Obj := .cells cur e (0, 0)
  let ρ' : Heap := fun b => if b = g then some o else ρ b
  have hbase := (h'.perm (.swap _ _ _)).base
  have hext : ∀ b o', ρ b = some o' → ρ' b = some o' := fun b o' hb => by
   by_cases eb : b = g
   ·subst eb; rw [hd] at hb; cases hb
   ·simp [ρ', eb, hb]
  have hle : Le ρ ρ' := ⟨hext, fun _ => hbase⟩
  have hρg : ρ' g = some o := by simp [ρ']
  refine ⟨ρ', hle, ⟨hn.symm, hc, cs, h.le hle, ?_⟩, h'.join.tell ?_, ?_⟩
  ·intro j u hj
   refine ⟨_, rfl, ?_⟩
   have hadd : (⟨g, 0, none⟩ : Addr).add j = ⟨g, j, none⟩ := by unfold Addr.add; split <;> simp_all
   rw [hadd]
   simp only [cellOf, hρg, o]
   rw [← htake, List.getElem?_take] at hj
   split at hj
   ·simpa using hj
   ·cases hj
  ·rintro F ⟨F1, F2, rfl, ⟨rfl, h1⟩, h2, _⟩
   refine ⟨?_, hbase.mono hext⟩
   intro b o' hb
   simp only [ρ'] at hb
   split at hb
   ·rename_i eb; subst eb; cases hb; exact ⟨h1, by simp⟩
   ·obtain ⟨h3, h4⟩ := h2 b o' hb; exact ⟨h3, by simp [h4]⟩
  ·intro w' l' h3
   refine St.part ?_
   refine h3.step rfl rfl rfl (Nat.le_refl _) fun F hF hb hnd => ?_
   have hmem : g ∈ F := (hF.1 g o hρg).2
   refine ⟨g :: F.erase g, ⟨[g], F.erase g, rfl, ?_, ?_⟩, ?_, ?_, ?_, fun _ _ _ => rfl⟩
   ·refine ⟨hx, .inr ⟨g, c, cur, rfl, rfl, (hF.1 g o hρg).1, hc, hm, hs, htake⟩⟩
   ·refine ⟨?_, hbase⟩
    intro b o' hbo
    have hne : b ≠ g := fun eb => by subst eb; rw [hd] at hbo; cases hbo
    obtain ⟨h4, h5⟩ := hF.1 b o' (hext b o' hbo)
    exact ⟨h4, (List.mem_erase_of_ne hne).2 h5⟩
   ·exact List.nodup_cons.2 ⟨fun hm' => (List.Nodup.not_mem_erase hnd) hm', hnd.erase g⟩
   ·intro b hb'
    rcases List.mem_cons.1 hb' with rfl | hb'
    ·exact .inl hmem
    ·exact .inl (List.mem_of_mem_erase hb')
   ·intro b hb'
    rcases List.mem_cons.1 hb' with rfl | hb'
    ·exact hb _ hmem
    ·exact hb _ (List.mem_of_mem_erase hb')
omit [Inhabited α] in
theorem St.vec_open {g : Nat} (hS : St w0 w (vec e sz (.slice (.some ⟨g, 0, none⟩) n c) n cs :: l)) : ∃ cur, n ≤ c ∧ c ≤ maxLen ∧ cur.length = c * sz ∧ cur.take (n * sz) = cs ∧ St w0 w (cells g e cur :: l) := by
 obtain ⟨F, ⟨hl, h1⟩, _⟩ := hS.head
 rcases h1 with ⟨hv, h0, _⟩ | ⟨g', cap, cur, hv, rfl, hg, hc, hm, hs, htake⟩
 ·cases hv
 ·injection hv with hA _ hcc
  injection hA with hA
  injection hA with hA _ _
  subst hA; subst hcc
  refine ⟨cur.toList, hc, hm, by simpa using hs, htake, hS.tell fun F hF => ?_⟩
  rcases hF.2 with ⟨hv, _⟩ | ⟨g', cap', cur', hv, rfl, hg', _⟩
  ·cases hv
  ·injection hv with hA _ _
   injection hA with hA
   injection hA with hA _ _
   subst hA
   exact ⟨rfl, hg⟩
omit [Inhabited α] in
theorem St.vec_base (hS : St w0 w (vec e sz (.slice A n c) n cs :: l)) : (A = none ∧ c = 0 ∧ n = 0 ∧ cs = []) ∨ ∃ g, A = .some ⟨g, 0, none⟩ := by
 obtain ⟨F, ⟨hl, h1⟩, _⟩ := hS.head
 rcases h1 with ⟨hv, h0, _⟩ | ⟨g', cap, cur, hv, _⟩
 ·injection hv with hA _ hcc
  subst h0
  exact .inl ⟨hA, hcc, rfl, List.eq_nil_of_length_eq_zero (by simpa using hl)⟩
 ·injection hv with hA _ _
  exact .inr ⟨g', hA⟩
omit [Inhabited α] in
theorem St.vec_close {g : Nat} {cur : List Value} (hS : St w0 w (cells g e cur :: l)) (hc : n ≤ c) (hm : c ≤ maxLen) (hs : cur.length = c * sz) : St w0 w (vec e sz (.slice (some ⟨g, 0, none⟩) n c) n (cur.take (n * sz)) :: l) :=
 hS.tell fun F ⟨hF, hb⟩ => ⟨by rw [List.length_take, hs]; exact Nat.min_eq_left (Nat.mul_le_mul_right _ hc), .inr ⟨g, c, ⟨cur⟩, rfl, hF, hb, hc, hm, by simpa using hs, rfl⟩⟩
end
end Go.Proofs.YtgmjhlpjlggpiaaDoor.X

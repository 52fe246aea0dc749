/- Slices of slices that are one's own: the rows too. -/
import Derived.Test.YtfkncjfpgflafaaDoorYH
namespace Go.Proofs.YtfkncjfpgflafaaDoor.X
open Go Go.RowKit
set_option linter.unusedVariables false
set_option linter.unusedSimpArgs false
/-- A slice's header. -/
structure Hd where
  A : Option Addr
  n : Nat
  c : Nat
def Hd.v (h : Hd) : Value := .slice h.A h.n h.c
section
variable {α : Type} {R : Rp α} {ei eo : TypeId} {w0 w : World} {l : List Assn} {ρ : Heap}
/-- A row of one's own. -/
def rowA (ei : TypeId) (R : Rp α) (h : Hd) (xs : List α) : Assn := bunA (fun cs : List Value => ∀ ρ, RepL R ρ xs cs) (fun cs => [vec ei R.sz (.slice h.A h.n h.c) h.n cs])
def rowsA (ei : TypeId) (R : Rp α) : List Hd → List (List α) → List Assn
  | h :: hs, xs :: xss => rowA ei R h xs :: rowsA ei R hs xss
  | _, _ => []
def vec2 (eo ei : TypeId) (R : Rp α) (A : Option Addr) (n c : Nat) (xss : List (List α)) : Assn :=
  bunA (fun hs : List Hd => hs.length = xss.length) (fun hs => vec eo 1 (.slice A n c) n (hs.map Hd.v) :: rowsA ei R hs xss)
/-- The same, row i taken out; its header is h. -/
def hole (eo ei : TypeId) (R : Rp α) (A : Option Addr) (n c : Nat) (xss : List (List α)) (i : Nat) (h : Hd) : Assn :=
  bunA (fun hs : List Hd => hs.length = xss.length ∧ hs[i]? = some h) (fun hs => vec eo 1 (.slice A n c) n (hs.map Hd.v) :: rowsA ei R (hs.eraseIdx i) (xss.eraseIdx i))
theorem erase_set {β : Type} {x : β} : ∀ (xs : List β) (i : Nat), (xs.set i x).eraseIdx i = xs.eraseIdx i
  | [], _ => rfl
  | _ :: _, 0 => rfl
  | a :: xs, i + 1 => by simp [erase_set xs i]
theorem rows_perm {h : Hd} {xs : List α} : ∀ {hs : List Hd} {xss : List (List α)} {i : Nat}, hs[i]? = some h → xss[i]? = some xs → (rowsA ei R hs xss).Perm (rowA ei R h xs :: rowsA ei R (hs.eraseIdx i) (xss.eraseIdx i))
  | [], _, _, h1, _ => by simp at h1
  | _ :: _, [], _, _, h2 => by simp at h2
  | a :: hs, y :: xss, 0, h1, h2 => by
    simp at h1 h2; subst h1; subst h2; exact List.Perm.refl _
  | a :: hs, y :: xss, i + 1, h1, h2 => by
    have ih := rows_perm (hs := hs) (xss := xss) (i := i) (by simpa using h1) (by simpa using h2)
    exact (List.Perm.cons _ ih).trans (.swap _ _ _)
theorem St.row_in {h : Hd} {xs : List α} (hS : St w0 w (rowA ei R h xs :: l)) : ∃ cs, (∀ ρ, RepL R ρ xs cs) ∧ St w0 w (vec ei R.sz (.slice h.A h.n h.c) h.n cs :: l) := St.unbun hS
/-- Row i is taken out. -/
theorem St.open2 {A : Option Addr} {n c : Nat} {xss : List (List α)} {i : Int} (hb : inb i xss.length) (hS : St w0 w (vec2 eo ei R A n c xss :: l)) :
    ∃ A' n' c' cs', (∀ ρ, RepL R ρ (gt xss i) cs') ∧ St w0 w (vec ei R.sz (.slice A' n' c') n' cs' :: hole eo ei R A n c xss i.toNat ⟨A', n', c'⟩ :: l) := by
  obtain ⟨hs, hl, hS⟩ := St.unbun hS
  have hlt := inb_lt hb
  have h1 : hs[i.toNat]? = some hs[i.toNat] := List.getElem?_eq_getElem (by omega)
  have h2 : xss[i.toNat]? = some (gt xss i) := by rw [gt_get hb]; exact List.getElem?_eq_getElem hlt
  have hp := rows_perm (ei := ei) (R := R) h1 h2
  have hS2 : St w0 w (rowA ei R hs[i.toNat] (gt xss i) :: vec eo 1 (.slice A n c) n (hs.map Hd.v) :: (rowsA ei R (hs.eraseIdx i.toNat) (xss.eraseIdx i.toNat) ++ l)) :=
    hS.perm ((List.Perm.cons _ (hp.append_right l)).trans (.swap _ _ _))
  obtain ⟨cs, hr, hS3⟩ := St.row_in hS2
  refine ⟨hs[i.toNat].A, hs[i.toNat].n, hs[i.toNat].c, cs, hr, ?_⟩
  have hS5 : St w0 w ((vec eo 1 (.slice A n c) n (hs.map Hd.v) :: rowsA ei R (hs.eraseIdx i.toNat) (xss.eraseIdx i.toNat)) ++ (vec ei R.sz (.slice hs[i.toNat].A hs[i.toNat].n hs[i.toNat].c) hs[i.toNat].n cs :: l)) :=
    hS3.perm (List.perm_middle (l₁ := vec eo 1 (.slice A n c) n (hs.map Hd.v) :: rowsA ei R (hs.eraseIdx i.toNat) (xss.eraseIdx i.toNat)) (l₂ := l)).symm
  exact (St.bun (Φ := fun hs' : List Hd => hs'.length = xss.length ∧ hs'[i.toNat]? = some hs[i.toNat]) (L := fun hs => vec eo 1 (.slice A n c) n (hs.map Hd.v) :: rowsA ei R (hs.eraseIdx i.toNat) (xss.eraseIdx i.toNat)) hs ⟨hl, h1⟩ hS5).perm (.swap _ _ _)
/-- Row i is put back. -/
theorem St.close2 {A : Option Addr} {n c : Nat} {xss : List (List α)} {i : Int} {A' : Option Addr} {n' c' : Nat} {cs' : List Value} {xs' : List α} (hb : inb i xss.length) (hr : ∀ ρ, RepL R ρ xs' cs')
    (hS : St w0 w (vec ei R.sz (.slice A' n' c') n' cs' :: hole eo ei R A n c xss i.toNat ⟨A', n', c'⟩ :: l)) : St w0 w (vec2 eo ei R A n c (stt xss i xs') :: l) := by
  have hlt := inb_lt hb
  have h0 : St w0 w (rowA ei R ⟨A', n', c'⟩ xs' :: hole eo ei R A n c xss i.toNat ⟨A', n', c'⟩ :: l) := St.bun (L := fun cs => [vec ei R.sz (.slice A' n' c') n' cs]) cs' hr hS
  obtain ⟨hs, ⟨hl, hi⟩, hS2⟩ := St.unbun (h0.perm (.swap _ _ _))
  refine St.bun (Φ := fun hs : List Hd => hs.length = (stt xss i xs').length) (L := fun hs => vec eo 1 (.slice A n c) n (hs.map Hd.v) :: rowsA ei R hs (stt xss i xs')) hs (by rw [stt_length]; exact hl) ?_
  have h2 : (stt xss i xs')[i.toNat]? = some xs' := by simp [stt, hlt]
  have he : (stt xss i xs').eraseIdx i.toNat = xss.eraseIdx i.toNat := erase_set _ _
  have hp := rows_perm (ei := ei) (R := R) hi h2
  rw [he] at hp
  refine hS2.perm ?_
  refine List.Perm.cons _ ?_
  exact (List.perm_middle).trans (hp.symm.append_right l)
theorem stt_self [Inhabited α] {xs : List α} {i : Int} (hb : inb i xs.length) : stt xs i (gt xs i) = xs := by
  unfold stt
  rw [gt_get hb]
  exact List.set_getElem_self (inb_lt hb)
theorem St.close2s {A : Option Addr} {n c : Nat} {xss : List (List α)} {i : Int} {A' : Option Addr} {n' c' : Nat} {cs' : List Value} {z : List α} (hz : z = gt xss i) (hb : inb i xss.length) (hr : ∀ ρ, RepL R ρ z cs')
    (hS : St w0 w (vec ei R.sz (.slice A' n' c') n' cs' :: hole eo ei R A n c xss i.toNat ⟨A', n', c'⟩ :: l)) : St w0 w (vec2 eo ei R A n c xss :: l) := by
  subst hz
  have := St.close2 hb hr hS
  rwa [stt_self hb] at this
theorem add0' (a : Addr) : a.add 0 = a := by simp [Addr.add]
/-- A header is put into the hole. -/
theorem hole_cell {A : Option Addr} {n c : Nat} {xss : List (List α)} {i : Nat} {h : Hd} (hS : St w0 w (hole eo ei R A n c xss i h :: l)) : w.cell? ((adr A).add (i * 1)) = some (.slice h.A h.n h.c) := by
  obtain ⟨hs, ⟨hl, hi⟩, hS2⟩ := St.unbun hS
  have hc : (hs.map Hd.v)[i * 1 + 0]? = some (.slice h.A h.n h.c) := by simp [hi]; rfl
  have := St.vec_get (R := RpB) hS2 hc
  have e : ((adr A).add (i * RpB.sz)).add 0 = (adr A).add (i * 1) := add0' _
  rw [e] at this; exact this
/-- Headers, told as they are. -/
def RpH : Rp Hd where
  sz := 1
  ok _ cs x := cs = [x.v]
  pos := by decide
  len := by rintro ρ cs x rfl; rfl
  le := by rintro ρ ρ' cs x rfl hle; rfl
  one := by rintro ρ cs x rfl v hv; simp only [List.mem_singleton] at hv; subst hv; rfl
theorem repH : ∀ hs : List Hd, RepL RpH ρ hs (hs.map Hd.v)
  | [] => rfl
  | h :: hs => ⟨[h.v], hs.map Hd.v, rfl, rfl, repH hs⟩
theorem repH_eq : ∀ {hs : List Hd} {cs : List Value}, RepL RpH ρ hs cs → cs = hs.map Hd.v
  | [], cs, h => h
  | h :: hs, cs, ⟨c1, c2, e, h1, h2⟩ => by
    have h1 : c1 = [h.v] := h1
    rw [e, h1, repH_eq h2]; rfl
instance : Inhabited Hd := ⟨⟨none, 0, 0⟩⟩
/-- Rows of nothing. -/
theorem St.nils {k : Nat} : St w0 w l → St w0 w (rowsA ei R (List.replicate k ⟨none, 0, 0⟩) (List.replicate k []) ++ l) := by
  induction k with
  | zero => exact fun h => h
  | succ k ih =>
    intro h
    have h1 := St.vec_nil (ih h) ei R.sz
    have h2 : St w0 w (rowA ei R ⟨none, 0, 0⟩ [] :: (rowsA ei R (List.replicate k ⟨none, 0, 0⟩) (List.replicate k []) ++ l)) := St.bun (Φ := fun cs : List Value => ∀ ρ, RepL R ρ ([] : List α) cs) (L := fun cs => [vec ei R.sz (.slice none 0 0) 0 cs]) [] (fun _ => rfl) h1
    exact h2
end
section
variable {P : Program} {n : Nat} {Rr : Env → World → Prop} {st : List It} {E : Env} {w w0 : World} {all : Array Oper} {rest : List Oper} {l : List Assn}
variable {d : Nat} {dd : Option Nat} {ty t : TypeId} {pos : String} {af : Array Edge} {g : Option (Nat × Bool)} {x y : Operand} {k k' : IntKind}
variable {α : Type} {R : Rp α} {ei eo by_ len cap : Nat} {A : Option Addr} {i c : Int} {xss : List (List α)}
theorem o_mk2 (ht : sliceB P t = some (eo, 1, by_)) (hz : zeroB P eo = some [.slice none 0 0]) (h1 : 1 ≤ by_) (hx : ev E x = .int k c) (hy : ev E y = .int k' c) (hc : mkOk by_ c) (hxs : xss = List.replicate c.toNat []) (hS : St w0 w l)
    (h : ∀ A w', St w0 w' (vec2 eo ei R A xss.length xss.length xss :: l) → S P n Rr (.ops all rest :: st) (E.set d (.slice A xss.length xss.length)) w') (hd : Nat.blt d n = true := by rfl) :
    S P n Rr (.ops all (⟨some d, .makeSlice t x y, ty, pos, af, none⟩ :: rest) :: st) E w := by
  refine o_mk (Q := RpH) (ρ := hp w) (z := (⟨none, 0, 0⟩ : Hd)) ht hz rfl hx hy hc h1 rfl hS (fun A cs w' hr hS' => ?_) hd
  have e := repH_eq hr
  subst e
  have hl : (List.replicate c.toNat (⟨none, 0, 0⟩ : Hd)).length = xss.length := by rw [hxs]; simp
  rw [hl] at hS' ⊢
  refine h A w' ?_
  refine St.bun (Φ := fun hs : List Hd => hs.length = xss.length) (L := fun hs => vec eo 1 (.slice A xss.length xss.length) xss.length (hs.map Hd.v) :: rowsA ei R hs xss) _ hl ?_
  have h2 := St.nils (R := R) (ei := ei) (k := c.toNat) (hS'.perm (List.Perm.refl _))
  rw [← hxs] at h2
  exact h2.perm List.perm_middle
theorem yix2 (ht : sliceB P t = some (eo, 1, by_)) (hx : ev E x = .slice A len cap) (hy : ev E y = .int k i) (hS : St w0 w (vec2 eo ei R A len cap xss :: l)) (hb : inb i xss.length) : Yl P E ⟨dd, .indexAddr t x y, ty, pos, af, g⟩ (.pointer (some ((adr A).add (i.toNat * 1)))) := by
  obtain ⟨hs, hl, hS2⟩ := St.unbun hS
  exact yix_o (Q := RpH) ht hx hy hS2 (repH (ρ := hp w) hs) (by rw [hl]; exact hb)
theorem yix2h {j : Nat} {h : Hd} (ht : sliceB P t = some (eo, 1, by_)) (hx : ev E x = .slice A len cap) (hy : ev E y = .int k i) (hS : St w0 w (hole eo ei R A len cap xss j h :: l)) (hb : inb i xss.length) : Yl P E ⟨dd, .indexAddr t x y, ty, pos, af, g⟩ (.pointer (some ((adr A).add (i.toNat * 1)))) := by
  obtain ⟨hs, ⟨hl, _⟩, hS2⟩ := St.unbun hS
  exact yix_o (Q := RpH) ht hx hy hS2 (repH (ρ := hp w) hs) (by rw [hl]; exact hb)
theorem o_put2 {h0 : Hd} {A2 : Option Addr} {n2 c2 : Nat} {ad : Addr} (hsz : (P.info? t).map (·.size) = some 1) (hx : ev E x = .pointer (some ad)) (hy : ev E y = .slice A2 n2 c2) (had : ad = (adr A).add (i.toNat * 1)) (hb : inb i xss.length)
    (hS : St w0 w (hole eo ei R A len cap xss i.toNat h0 :: l))
    (h : ∀ w', St w0 w' (hole eo ei R A len cap xss i.toNat ⟨A2, n2, c2⟩ :: l) → S P n Rr (.ops all rest :: st) (E.ins dd undef) w') (hd : fits dd n = true := by rfl) :
    S P n Rr (.ops all (⟨dd, .store t x y, ty, pos, af, none⟩ :: rest) :: st) E w := by
  obtain ⟨hs, ⟨hl, hi⟩, hS2⟩ := St.unbun hS
  have hb2 : inb i hs.length := by rw [hl]; exact hb
  refine o_put (Q := RpH) (ρ := hp w) (ρ' := hp w) (x' := (⟨A2, n2, c2⟩ : Hd)) (o := 0) (news := [.slice A2 n2 c2]) (xs := hs) hsz hx hy rfl rfl (by rw [had, add0']; rfl) hb2 (Nat.le_refl _) hS2 (repH hs) (Le.refl _) (fun c hc => by
    have hc : c = [(gt hs i).v] := hc
    subst hc; rfl) (fun cs' w' hr hS' => ?_) hd
  have e := repH_eq hr
  subst e
  refine h w' ?_
  refine St.bun (Φ := fun hs : List Hd => hs.length = xss.length ∧ hs[i.toNat]? = some ⟨A2, n2, c2⟩) (L := fun hs => vec eo 1 (.slice A len cap) len (hs.map Hd.v) :: rowsA ei R (hs.eraseIdx i.toNat) (xss.eraseIdx i.toNat)) (stt hs i ⟨A2, n2, c2⟩) ⟨by rw [stt_length]; exact hl, by have := inb_lt hb2; simp [stt, this]⟩ ?_
  have e2 : (stt hs i (⟨A2, n2, c2⟩ : Hd)).eraseIdx i.toNat = hs.eraseIdx i.toNat := erase_set _ _
  simp only [e2]
  exact hS'
end

/-! ### An array of four, indexed by a number -/
section
variable {α : Type} {P : Program} {E : Env} {x y : Operand} {dd : Option Nat} {ty : TypeId} {pos : String} {g : Option (Nat × Bool)}
end
/-! ### A literal row of bytes, turned to its own type -/
section
variable {P : Program} {n : Nat} {R : Env → World → Prop} {st : List It} {E : Env} {w0 w : World} {l : List Assn} {all : Array Oper} {rest : List Oper} {ty : TypeId} {pos : String} {af : Array Edge} {x : Operand} {d : Nat}
end
end Go.Proofs.YtfkncjfpgflafaaDoor.X

/- The executor's rules in the words of plain programs. Lemmas over any program. -/
import Derived.Test.YtgmjhlpjlggpiaaDoorYA
import Derived.Laws.BytesString
import Derived.Laws.BitsAllLaws
namespace Go.Proofs.YtgmjhlpjlggpiaaDoor.X
open Go Go.RowKit
set_option linter.unusedVariables false
set_option linter.unusedSimpArgs false

section
variable {P : Program} {n : Nat} {R : Env → World → Prop} {st : List It} {E : Env} {w w0 : World} {all : Array Oper} {rest : List Oper} {l : List Assn} {T : Env → World → Prop} {C : World → Prop}
variable {d : Nat} {dd : Option Nat} {op : Op} {ty t t' : TypeId} {pos : String} {af : Array Edge} {g : Option (Nat × Bool)} {v : Value} {x y : Operand}

/-! ### One operation -/
theorem p (hr : Yl P E ⟨some d, op, ty, pos, af, none⟩ v) (h : S P n R (.ops all rest :: st) (E.set d v) w) (hd : Nat.blt d n = true := by rfl) : S P n R (.ops all (⟨some d, op, ty, pos, af, none⟩ :: rest) :: st) E w :=
 o_pure d hr h rfl rfl hd
theorem pa (hr : At P E ⟨some d, op, ty, pos, af, none⟩ w v) (h : S P n R (.ops all rest :: st) (E.set d v) w) (hd : Nat.blt d n = true := by rfl) : S P n R (.ops all (⟨some d, op, ty, pos, af, none⟩ :: rest) :: st) E w :=
 o_at d hr h rfl rfl hd
theorem q (hr : Yl P E ⟨some d, op, ty, pos, af, none⟩ v) (h : Qt P n C T all rest (E.set d v)) (hd : Nat.blt d n = true := by rfl) : Qt P n C T all (⟨some d, op, ty, pos, af, none⟩ :: rest) E :=
 q_pure d hr h rfl rfl hd
theorem qa (hr : ∀ w', C w' → At P E ⟨some d, op, ty, pos, af, none⟩ w' v) (h : Qt P n C T all rest (E.set d v)) (hd : Nat.blt d n = true := by rfl) : Qt P n C T all (⟨some d, op, ty, pos, af, none⟩ :: rest) E :=
 q_at d hr h rfl rfl hd
theorem pg (tt : Nat) {b c : Bool} (hq : says (E tt) b = c) (hr : c = true → At P E ⟨some d, op, ty, pos, af, g⟩ w v) (h : S P n R (.ops all rest :: st) (E.set d (bif c then v else undef)) w) (hg : guardOf all g = some (tt, b) := by rfl) (ht : Nat.blt tt n = true := by rfl) (hd : Nat.blt d n = true := by rfl) :
  S P n R (.ops all (⟨some d, op, ty, pos, af, g⟩ :: rest) :: st) E w := o_if d tt b c hq hr h hg ht rfl hd
/-- A region that draws its order: its worlds are told as the state is. -/
theorem x_still {id : Nat} {ops : List Oper} (hm : P.follows .mixedOrders = true) (hB : Region.lexB .any ops.toArray = true) (hS : St w0 w l) (h : Qt P n (fun w' => St w0 w' l) (S P n R st) ops.toArray ops E) :
  S P n R (.code (.region id ops.toArray true) :: st) E w := x_quiet _ hm hB (hS.drawn _) h
/-- A quiet head of k operations, and a tail that comes up in one order. -/
theorem x_head {id : Nat} {ops : List Oper} (k : Nat) (hm : P.follows .mixedOrders = true) (hB : Region.lexTailB .any ops.toArray k = true) (hS : St w0 w l) (l1 l2 : List Oper) (h1 : ops.take k = l1) (h2 : ops.drop k = l2)
  (h : Qt P n (fun w' => St w0 w' l) (S P n R (.ops ops.toArray l2 :: st)) ops.toArray l1 E) : S P n R (.code (.region id ops.toArray true) :: st) E w :=
 x_tail _ k hm hB (hS.drawn _) l1 l2 h1 h2 h

/-! ### Arithmetic -/
variable {k k' : IntKind} {a b c m : Int}
theorem yadd (hx : ev E x = .int .i64 a) (hy : ev E y = .int .i64 b) (h : c = a + b ∧ I64 (a + b)) : Yl P E ⟨dd, .binOp .add t x y t', ty, pos, af, g⟩ (.int .i64 c) := yl_add hx hy ((wrap_i64 h.2).trans h.1.symm)
theorem ysub (hx : ev E x = .int .i64 a) (hy : ev E y = .int .i64 b) (h : c = a - b ∧ I64 (a - b)) : Yl P E ⟨dd, .binOp .sub t x y t', ty, pos, af, g⟩ (.int .i64 c) := yl_sub hx hy ((wrap_i64 h.2).trans h.1.symm)
theorem ymul (hx : ev E x = .int .i64 a) (hy : ev E y = .int .i64 b) (h : c = a * b ∧ I64 (a * b)) : Yl P E ⟨dd, .binOp .mul t x y t', ty, pos, af, g⟩ (.int .i64 c) := yl_mul hx hy ((wrap_i64 h.2).trans h.1.symm)
theorem yquo (hx : ev E x = .int .i64 a) (hy : ev E y = .int .i64 b) (hb : b ≠ 0) (h : c = a.tdiv b ∧ I64 (a.tdiv b)) : Yl P E ⟨dd, .binOp .quo t x y t', ty, pos, af, g⟩ (.int .i64 c) := yl_quo hx hy hb ((wrap_i64 h.2).trans h.1.symm)
theorem yrem (hx : ev E x = .int k a) (hy : ev E y = .int k b) (hb : b ≠ 0) (h : c = a.tmod b) : Yl P E ⟨dd, .binOp .rem t x y t', ty, pos, af, g⟩ (.int k c) := yl_rem hx hy hb h.symm
theorem yeqb {p q : Bool} (ht : P.underlying t = some .bool) (hx : ev E x = .bool p) (hy : ev E y = .bool q) : Yl P E ⟨dd, .binOp .eql t x y t', ty, pos, af, g⟩ (.bool (p == q)) := fun w => by
 simp [At, execOp, eqGuard, hx, hy, binOp, run_equal_bool w t p q ht, pure, Sem.run]
theorem yadds {p q : ByteArray} (hx : ev E x = .string p) (hy : ev E y = .string q) (hz : p.size + q.size ≤ 140737488355328) : Yl P E ⟨dd, .binOp .add t x y t', ty, pos, af, g⟩ (.string (p ++ q)) := fun w => by
 have h : ¬ ((p.size : Int) + q.size > IntKind.i64.max) := by
  have e : IntKind.i64.max = 9223372036854775807 := by decide
  rw [e]
  omega
 simp [At, execOp, eqGuard, hx, hy, binOp, Op.stringOp, pure, Sem.run]
 omega
theorem ymin (hx : ev E x = .int k a) (hy : ev E y = .int k b) : Yl P E ⟨dd, .call { callee := .builtin .min, args := #[x, y], argTypes := #[t, t'] }, ty, pos, af, g⟩ (.int k (min a b)) := by
 have h := yl_min (P := P) (d := dd) (ty := ty) (pos := pos) (af := af) (g := g) (t := t) (t' := t') hx hy
 have e : (if b < a then b else a) = min a b := by simp only [Int.min_def]; split <;> split <;> omega
 rwa [e] at h
theorem ymax (hx : ev E x = .int k a) (hy : ev E y = .int k b) : Yl P E ⟨dd, .call { callee := .builtin .max, args := #[x, y], argTypes := #[t, t'] }, ty, pos, af, g⟩ (.int k (max a b)) := by
 have h := yl_max (P := P) (d := dd) (ty := ty) (pos := pos) (af := af) (g := g) (t := t) (t' := t') hx hy
 have e : (if a < b then b else a) = max a b := by simp only [Int.max_def]; split <;> split <;> omega
 rwa [e] at h

/-! ### Elements -/
variable {α : Type} {Q : Rp α} {ρ ρ' : Heap} {A : Option Addr} {len cap sz e by_ : Nat} {xs : List α} {cs news : List Value} {i : Int}
theorem yix_f [Inhabited α] (ht : sliceB P t = some (e, Q.sz, by_)) (hx : ev E x = .slice A len cap) (hy : ev E y = .int k i) (h : RdS Q ρ A len cap xs) (hb : inb i xs.length) : Yl P E ⟨dd, .indexAddr t x y, ty, pos, af, g⟩ (.pointer (some ((adr A).add (i.toNat * Q.sz)))) :=
 yl_index_r ht hx hy (h.some hb) hb.1 (by have := h.1; obtain ⟨_, _⟩ := hb; omega)
theorem yix_o [Inhabited α] (ht : sliceB P t = some (e, Q.sz, by_)) (hx : ev E x = .slice A len cap) (hy : ev E y = .int k i) (hS : St w0 w (vec e Q.sz (.slice A len cap) len cs :: l)) (h : RepL Q ρ xs cs) (hb : inb i xs.length) : Yl P E ⟨dd, .indexAddr t x y, ty, pos, af, g⟩ (.pointer (some ((adr A).add (i.toNat * Q.sz)))) :=
 yl_index_r ht hx hy (hS.vec_some h hb) hb.1 (by have := hS.vec_n h; obtain ⟨_, _⟩ := hb; omega)
/-- A cell of an element that is never written again. -/
theorem RdS.getV [Inhabited α] {f : α → Value} {h1 : ∀ x, (f x).oneCell' = true} (h : RdS (RpV f h1) ρ A len cap xs) (hS : St w0 w (ro ρ :: l)) (hb : inb i xs.length) : w.cell? ((adr A).add (i.toNat * 1)) = Option.some (f (gt xs i)) := by
 obtain ⟨c, hc, hk⟩ := h.get hb
 have hc' : c = [f (gt xs i)] := hc
 subst hc'
 exact hS.ro_cell (hk 0 _ rfl)
theorem RepL.getV [Inhabited α] {f : α → Value} {h1 : ∀ x, (f x).oneCell' = true} (h : RepL (RpV f h1) ρ xs cs) (hS : St w0 w (vec e 1 (.slice A len cap) len cs :: l)) (hb : inb i xs.length) : w.cell? ((adr A).add (i.toNat * 1)) = some (f (gt xs i)) := by
 obtain ⟨c, hc, hk⟩ := h.get hb
 have hc' : c = [f (gt xs i)] := hc
 subst hc'
 exact hS.vec_get (R := RpV f h1) (hk 0 _ rfl)
/-- Where an element's cells lie. -/
def Elt (h : Heap) (ad : Addr) (cs : List Value) : Prop := ∀ k v, cs[k]? = some v → cellOf h (ad.add k) = some v
theorem Elt.ld {ad : Addr} (h : Elt ρ ad cs) (hS : St w0 w (ro ρ :: l)) {j : Nat} {v : Value} (hj : cs[j]? = some v) : w.cell? (ad.add j) = some v := hS.ro_cell (h j v hj)
theorem Elt.le {ad : Addr} (h : Elt ρ ad cs) (hle : Le ρ ρ') : Elt ρ' ad cs := fun k v hk => cellOf_le hle.ext (h k v hk)
theorem Elt.every {ad : Addr} (h : Elt ρ ad cs) (hS : St w0 w (ro ρ :: l)) : ∀ j v, cs[j]? = some v → w.cell? (ad.add j) = some v := fun j v hj => hS.ro_cell (h j v hj)
def EltV (cs : List Value) (o : Nat) (c : List Value) : Prop := ∀ k v, c[k]? = some v → cs[o + k]? = some v
theorem EltV.ld {c : List Value} {j : Nat} (h : EltV cs (j * Q.sz) c) (hS : St w0 w (vec e Q.sz (.slice A len cap) len cs :: l)) {m : Nat} {v : Value} (hm : c[m]? = some v) : w.cell? (((adr A).add (j * Q.sz)).add m) = some v := hS.vec_get (h m v hm)
theorem EltV.every {c : List Value} {j : Nat} (h : EltV cs (j * Q.sz) c) (hS : St w0 w (vec e Q.sz (.slice A len cap) len cs :: l)) : ∀ m v, c[m]? = some v → w.cell? (((adr A).add (j * Q.sz)).add m) = some v := fun m v hm => hS.vec_get (h m v hm)

/-! ### make, append, stores -/
theorem o_mk {z : α} {zs : List Value} {c : Int} {k k' : IntKind} (ht : sliceB P t = some (e, Q.sz, by_)) (hz : zeroB P e = some zs) (hQ : Q.ok ρ zs z) (hx : ev E x = .int k c) (hy : ev E y = .int k' c) (hc : mkOk by_ c) (h1 : 1 ≤ by_) (hxs : xs = List.replicate c.toNat z) (hS : St w0 w l)
  (h : ∀ A cs w', RepL Q ρ xs cs → St w0 w' (vec e Q.sz (.slice A xs.length xs.length) xs.length cs :: l) → S P n R (.ops all rest :: st) (E.set d (.slice A xs.length xs.length)) w') (hd : Nat.blt d n = true := by rfl) :
  S P n R (.ops all (⟨some d, .makeSlice t x y, ty, pos, af, none⟩ :: rest) :: st) E w := by
 obtain ⟨hu, inf, hi, hi1, hi2⟩ := sliceB_spec ht
 obtain ⟨zv, hz1, hz2⟩ := zero_of hi hz
 have hzc : zv.cells = ⟨zs⟩ := by
  unfold zeroB at hz
  rw [hi] at hz
  simp only [Option.bind_some, hz1, Option.map_some, Option.some.injEq] at hz
  exact Array.ext' (by simpa using hz)
 have hcm : c ≤ by_ * c := by
  have : 1 * c ≤ (by_ : Int) * c := Int.mul_le_mul_of_nonneg_right (by omega) hc.1
  omega
 have hlen : xs.length = c.toNat := by rw [hxs]; simp
 have hmade : ∀ m : Nat, madeCells ⟨zs⟩ (m * zs.length) = ⟨(List.replicate m zs).flatten⟩ := by
  intro m
  have hp : 0 < zs.length := by rw [Q.len hQ]; exact Q.pos
  apply Array.ext'
  apply List.ext_getElem
  ·simp [madeCells]
  ·intro j h1 h2
   simp only [madeCells, Array.getElem_toList, Array.getElem_map, Array.getElem_range]
   have hj : j < m * zs.length := by simpa [madeCells] using h1
   have hmod : j % zs.length < zs.length := Nat.mod_lt _ hp
   have key : ∀ (m j : Nat) (hj : j < (List.replicate m zs).flatten.length), (List.replicate m zs).flatten[j] = zs[j % zs.length]'(Nat.mod_lt _ hp) := by
    intro m
    induction m with
    | zero => intro j hj; simp at hj
    | succ m ih =>
     intro j hj
     simp only [List.replicate_succ, List.flatten_cons]
     by_cases hlt : j < zs.length
     ·rw [List.getElem_append_left hlt]
      congr 1
      exact (Nat.mod_eq_of_lt hlt).symm
     ·rw [List.getElem_append_right (by omega), ih (j - zs.length) (by simp only [List.replicate_succ, List.flatten_cons, List.length_append] at hj; omega)]
      congr 1
      exact (Nat.mod_eq_sub_mod (by omega)).symm
   rw [key m j h2]
   simp [hmod]
 have hr := run_make (P := P) w t e inf zv hu hi hz1 k k' c c hc.1 (Int.le_refl _) (by rw [hi2]; exact hc.2) (by have := hc.2; omega)
 rw [hi1, hzc, ← Q.len hQ, hmade] at hr
 refine o_val rfl (by exact hd) (v := .slice (some ⟨w.heap.size, 0, none⟩) c.toNat c.toNat) (w' := w.alloc (.cells ⟨(List.replicate c.toNat zs).flatten⟩ e)) (by simp [execOp, hx, hy, hr]) ?_
 have hrep : RepL Q ρ xs (List.replicate c.toNat zs).flatten := by rw [hxs]; exact RepL.rep hQ _
 have hS' := (hS.alloc (.cells ⟨(List.replicate c.toNat zs).flatten⟩ e)).vec_of (n := c.toNat) (sz := Q.sz) (by rw [hrep.len, hlen]) (by
  have := hc.2; simp only [maxLen]; omega)
 have := h (some ⟨w.heap.size, 0, none⟩) _ _ hrep (by rw [hlen]; exact hS')
 rw [hlen] at this
 exact this

theorem run_append_own (t tt ty e : TypeId) (inf : TypeInfo) (z : Value) (by_ : Nat) (ht : P.underlying t = some (.slice e)) (hi : P.info? e = some inf) (hz : inf.zero = some z)
  (hsize : inf.size = sz) (hby : inf.bytes = by_) (hzs : z.cells.size = sz) (hsz : 0 < sz) {m c : Nat} {cs : List Value} (hS : St w0 w (vec e sz (.slice A m c) m cs :: l))
  (x : Value) (k : Nat) (news : List Value) (src : Src P sz tt x k news w) (hbytes : (m + k) * by_ ≤ 140737488355328) (h1 : 1 ≤ by_) :
  ∃ A' c' w', (Builtin.append_ #[t, tt] ty #[.slice A m c, x]).run P w = .ok (.slice A' (m + k) c') w' ∧ St w0 w' (vec e sz (.slice A' (m + k) c') (m + k) (cs ++ news) :: l) := by
 subst hsize
 subst hby
 have hmk : m + k ≤ 140737488355328 := Nat.le_trans (Nat.le_mul_of_pos_right _ h1) hbytes
 have h63 : m + k ≤ maxLen := by simp only [maxLen]; omega
 have hl := src.newsLen
 obtain ⟨F, ⟨hx, hF⟩, hlt⟩ := hS.head
 have hlen : (cs ++ news).length = (m + k) * inf.size := by rw [List.length_append, hx, hl, Nat.add_mul]
 have grown : ∀ (old : Nat), St w0 (w.drew.alloc (.cells (cs.toArray ++ news.toArray ++ Builtin.zeroCells z.cells (grownCap w (m + k) old e - (m + k))) e))
    (vec e inf.size (.slice (some ⟨w.heap.size, 0, none⟩) (m + k) (grownCap w (m + k) old e)) (m + k) (cs ++ news) :: l) := by
  intro old
  have hge := grownCap_ge w (m + k) old e
  have hcm : grownCap w (m + k) old e ≤ maxLen := grownCap_le_maxLen w (m + k) old e h63
  refine (hS.drop.drew.alloc _).tell fun F hF => ⟨hlen, .inr ⟨_, _, _, rfl, hF.1, hF.2, hge, hcm, ?_, ?_⟩⟩
  ·simp only [Array.size_append, List.size_toArray, size_zeroCells, hzs, hx, hl, ← Nat.add_mul]
   congr 1
   omega
  ·simp only [Array.toList_append, List.append_assoc]
   rw [← List.append_assoc, ← hlen]
   exact List.take_left
 rcases hF with ⟨hv, rfl, _⟩ | ⟨g, cap, cur, hv, rfl, hg, hnc, hcm, hcs, htake⟩
 ·injection hv with hA _ hc
  subst hA; subst hc
  have hx0 : cs = [] := List.eq_nil_of_length_eq_zero (by simpa using hx)
  subst hx0
  by_cases hk : k = 0
  ·subst hk
   have hn : news = [] := List.eq_nil_of_length_eq_zero (by simpa using hl)
   subst hn
   refine ⟨none, 0, w, ?_, by simpa using hS⟩
   rcases src.kind with ⟨e', hk⟩ | hk <;> simp [Builtin.append_, run_underlying ht, run_underlying hk, sizeOf, typeInfo, hi, src.len, src.cells]
  ·have hr := run_append_grow_src (P := P) w t tt ty e inf z ht hi hz none 0 0 [] (run_firstCells_none _ _ _ _ _) x k news src (by omega) (by omega) (growslice_fits (by omega) hbytes)
   have hgr := grown 0
   simp only [List.nil_append, Array.empty_append] at hgr hr ⊢
   exact ⟨_, _, _, hr, hgr⟩
 ·injection hv with hA _ hc
  subst hA; subst hc
  have hg' : w.heap[g]? = some (.cells cur e (0, 0)) := hg
  by_cases hroom : m + k ≤ c
  ·have hfit : m * inf.size + news.length ≤ cur.size := by rw [hl, hcs, ← Nat.add_mul]; exact Nat.mul_le_mul_right _ hroom
   obtain ⟨cur2, _, _, hl2, ht2, hS2⟩ := hS.vec_open
   have hcell : ∀ j, j < news.length → (w.cell? ⟨g, 0 + m * inf.size + j, none⟩).isSome = true := fun j hj => by
    have := hS2.cell (i := 0 + m * inf.size + j) (v := cur2[0 + m * inf.size + j]'(by rw [hl2, Nat.zero_add]; have := Nat.mul_le_mul_right inf.size hroom; rw [Nat.add_mul] at this; omega)) (by simp)
    rw [this]; rfl
   have hr := run_append_room_src (P := P) w t tt ty e inf ht hi g 0 m c x k news src hroom hcell (fun j hj => hS2.unfrozen _)
   have hS3 := (St.sets (news := news) (o := 0 + m * inf.size) hS2).vec_close (n := m + k) (c := c) (sz := inf.size) hroom hcm (by rw [over_length, hl2])
   rw [over_take, Nat.zero_add] at hS3
   have e2 : over (List.take ((m + k) * inf.size) cur2) (m * inf.size) news = cs ++ news := by
    have h4 : (List.take ((m + k) * inf.size) cur2) = cs ++ (List.take ((m + k) * inf.size) cur2).drop (m * inf.size) := by
     conv => lhs; rw [← List.take_append_drop (m * inf.size) (List.take ((m + k) * inf.size) cur2)]
     rw [List.take_take, Nat.min_eq_left (Nat.mul_le_mul_right _ (by omega)), ht2]
    rw [h4]
    refine over_all news _ _ cs hx ?_
    rw [hl, List.length_drop, List.length_take, hl2, Nat.min_eq_left (Nat.mul_le_mul_right _ hroom), Nat.add_mul]
    omega
   rw [e2] at hS3
   exact ⟨_, _, _, hr, by rw [Nat.zero_add]; exact hS3⟩
  ·have hold : (Builtin.firstCells inf.size m (.slice (some ⟨g, 0, none⟩) m c)).run P w.drew = .ok cs.toArray w.drew :=
    run_firstCells_some w.drew inf.size m ⟨g, 0, none⟩ m c cs hx fun j u hj => by
     obtain ⟨a', ha', hc⟩ := hS.drew.vec_cell hj
     injection ha' with ha'
     subst ha'
     exact hc
   have hr := run_append_grow_src (P := P) w t tt ty e inf z ht hi hz (some ⟨g, 0, none⟩) m c cs hold x k news src (by omega) (by omega) (growslice_fits (by omega) hbytes)
   have hgr := grown c
   rw [show cs.toArray ++ news.toArray = (cs ++ news).toArray by simp] at hgr
   exact ⟨_, _, _, hr, hgr⟩

/-- append to a slice of one's own. -/
theorem o_ap {tt : TypeId} {zs : List Value} {ys zz : List α} {k : Nat} (ht : sliceB P t = some (e, Q.sz, by_)) (hz : zeroB P e = some zs) (hzl : zs.length = Q.sz) (h1 : 1 ≤ by_) (hx : ev E x = .slice A len cap) (hy : ev E y = v)
  (hS : St w0 w (vec e Q.sz (.slice A len cap) len cs :: l)) (hR : RepL Q ρ xs cs) (src : Src P Q.sz tt v k news w) (hN : RepL Q ρ ys news) (hzz : zz = xs ++ ys) (hck : apOk by_ zz.length)
  (h : ∀ A' c' cs' w', RepL Q ρ zz cs' → St w0 w' (vec e Q.sz (.slice A' zz.length c') zz.length cs' :: l) → S P n R (.ops all rest :: st) (E.set d (.slice A' zz.length c')) w') (hd : Nat.blt d n = true := by rfl) :
  S P n R (.ops all (⟨some d, .call { callee := .builtin .append, args := #[x, y], argTypes := #[t, tt] }, ty, pos, af, none⟩ :: rest) :: st) E w := by
 obtain ⟨hu, inf, hi, hi1, hi2⟩ := sliceB_spec ht
 obtain ⟨zv, hz1, hz2⟩ := zero_of hi hz
 have hn := hS.vec_n hR
 have hk : k = ys.length := by
  have h2 := src.newsLen
  rw [hN.len] at h2
  exact (Nat.eq_of_mul_eq_mul_right Q.pos h2).symm
 have hlen : zz.length = len + k := by rw [hzz, List.length_append, hn, hk]
 obtain ⟨A', c', w', hr, hS'⟩ := run_append_own (P := P) t tt ty e inf zv by_ hu hi hz1 hi1 hi2 (by rw [hz2, hzl]) Q.pos hS v k news src (by rw [← hlen]; exact hck) h1
 rw [← hlen] at hr hS'
 refine o_val rfl (by exact hd) (v := .slice A' zz.length c') (w' := w') ?_ (h A' c' _ w' (hzz ▸ hR.app hN) hS')
 simp [execOp, resolve, invoke, builtin, hx, hy, hr]
theorem src_blk {tt e' : TypeId} {b k c : Nat} {te : TypeId} (hk : P.underlying tt = some (.slice e')) (hS : St w0 w (cells b te news :: l)) (hl : news.length = k * sz) (h1 : allOne news = true) : Src P sz tt (.slice (some ⟨b, 0, none⟩) k c) k news w :=
 .ofSlice w hk _ _ _ _ hl (fun j u hj => by rw [add0]; exact hS.cell hj) (allOne_spec h1)
/-- A store into an element of a slice of one's own: of a whole element, or of a field. -/
theorem run_storeVar {ad : Addr} {v : Value} {t : TypeId} {w' : World} (hsz : (P.info? t).map (·.size) = some news.length) (hv : v.cells = ⟨news⟩) (hst : (storeCells ad news 0).run P w = .ok () w') : (storeVar t ad v).run P w = .ok () w' := by
 cases hi : P.info? t with
 | none => rw [hi] at hsz; cases hsz
 | some inf =>
  rw [hi] at hsz
  simp only [Option.map_some, Option.some.injEq] at hsz
  simp [storeVar, hv, sizeOf, typeInfo, hi, hsz, hst]
theorem o_put [Inhabited α] {x' : α} {o : Nat} {ad : Addr} (hsz : (P.info? t).map (·.size) = some news.length) (hx : ev E x = .pointer (some ad)) (hy : ev E y = v) (hv : v.cells = ⟨news⟩) (hone : allOne news = true)
  (had : ad = ((adr A).add (i.toNat * Q.sz)).add o) (hb : inb i xs.length) (ho : o + news.length ≤ Q.sz) (hS : St w0 w (vec e Q.sz (.slice A len cap) len cs :: l)) (hR : RepL Q ρ xs cs) (hle : Le ρ ρ')
  (hok : ∀ c, Q.ok ρ c (gt xs i) → Q.ok ρ' (over c o news) x')
  (h : ∀ cs' w', RepL Q ρ' (stt xs i x') cs' → St w0 w' (vec e Q.sz (.slice A len cap) len cs' :: l) → S P n R (.ops all rest :: st) (E.ins dd undef) w') (hd : fits dd n = true := by rfl) :
  S P n R (.ops all (⟨dd, .store t x y, ty, pos, af, none⟩ :: rest) :: st) E w := by
 have hl := hS.vec_slice.1
 have hn := hS.vec_n hR
 rcases hS.vec_base with ⟨_, _, rfl, _⟩ | ⟨g, hg⟩
 ·rw [← hn] at hb; obtain ⟨h1, h2⟩ := hb; omega
 ·subst hg
  obtain ⟨cur, hc1, hc2, hc3, hc4, hS2⟩ := hS.vec_open
  have hil := inb_lt hb
  have hb2 : i.toNat * Q.sz + o + news.length ≤ len * Q.sz := by
   have : (i.toNat + 1) * Q.sz ≤ len * Q.sz := Nat.mul_le_mul_right _ (by omega)
   rw [Nat.add_mul] at this
   omega
  have hb3 : len * Q.sz ≤ cur.length := by rw [hc3]; exact Nat.mul_le_mul_right _ hc1
  have e1 : ad = ⟨g, i.toNat * Q.sz + o, none⟩ := by rw [had, add_add]; exact add0 _ _
  subst e1
  have hst := run_storeCells_cells (P := P) g (i.toNat * Q.sz + o) news 0 w (fun j hj => by
   have := hS2.cell (i := i.toNat * Q.sz + o + 0 + j) (v := cur[i.toNat * Q.sz + o + 0 + j]'(by omega)) (by simp)
   rw [this]; rfl) (fun j hj => hS2.unfrozen _) (allOne_spec hone)
  simp only [Nat.add_zero] at hst
  have hS3 := (St.sets (news := news) (o := i.toNat * Q.sz + o) hS2).vec_close (n := len) (c := cap) (sz := Q.sz) hc1 hc2 (by rw [over_length, hc3])
  rw [over_take, hc4] at hS3
  refine o_nil rfl hd (w' := w.setCells g (i.toNat * Q.sz + o) news) ?_ (h _ _ (hR.put hb ho hle hok) hS3)
  simp [execOp, hx, hy, Instr.storeAt, Instr.sureAddr, run_storeVar hsz hv hst, pure, Sem.run]
end
end Go.Proofs.YtgmjhlpjlggpiaaDoor.X

/- The executor: more rules in the words of plain programs: elements, parts, least and greatest. Lemmas over any program. -/
import Derived.Test.YtgmjhlpjlggpiaaDoorYC
namespace Go.Proofs.YtgmjhlpjlggpiaaDoor.X
open Go Go.RowKit
set_option linter.unusedVariables false
set_option linter.unusedSimpArgs false

def sub {α : Type} (xs : List α) (a b : Int) : List α := (xs.drop a.toNat).take (b.toNat - a.toNat)
section
variable {P : Program} {n : Nat} {R : Env → World → Prop} {st : List It} {E : Env} {w w0 : World} {all : Array Oper} {rest : List Oper} {l : List Assn} {T : Env → World → Prop} {C : World → Prop}
variable {d : Nat} {dd : Option Nat} {op : Op} {ty t t' : TypeId} {pos : String} {af : Array Edge} {g : Option (Nat × Bool)} {v : Value} {x y : Operand}
variable {α : Type} {Q : Rp α} {ρ ρ' : Heap} {A : Option Addr} {len cap sz e by_ : Nat} {xs : List α} {cs news : List Value} {i : Int} {k : IntKind}

theorem RdS.getW [Inhabited α] {f : α → Value} {h1 : ∀ x, (f x).oneCell' = true} {z : α} (h : RdS (RpV f h1) ρ A len cap xs) (hS : St w0 w (ro ρ :: l)) (hb : inb i xs.length) (hz : z = gt xs i) : w.cell? ((adr A).add (i.toNat * 1)) = Option.some (f z) := hz ▸ h.getV hS hb
theorem RepL.getW [Inhabited α] {f : α → Value} {h1 : ∀ x, (f x).oneCell' = true} {z : α} (h : RepL (RpV f h1) ρ xs cs) (hS : St w0 w (vec e 1 (.slice A len cap) len cs :: l)) (hb : inb i xs.length) (hz : z = gt xs i) : w.cell? ((adr A).add (i.toNat * 1)) = some (f z) := hz ▸ h.getV hS hb
theorem ld_sub {m b off : Nat} {te : TypeId} {vs : List Value} (ht : aggB P t m = true) (hx : ev E x = .pointer (some ⟨b, off, none⟩)) (hm : Nat.ble (off + m) vs.length = true) (hd : (vs.drop off).take m = cs) (hS : St w0 w (cells b te vs :: l)) : At P E ⟨dd, .load t x, ty, pos, af, g⟩ w (.agg ⟨cs⟩) := by
 subst hd
 have hm' := Nat.le_of_ble_eq_true hm
 refine at_loadAgg ht hx (by simp; omega) fun j v hj => ?_
 rw [add_off]
 simp only [List.getElem?_take] at hj
 split at hj
 ·rw [List.getElem?_drop] at hj; exact hS.cell hj
 ·cases hj
theorem ok_all {c : List Value} {x x' : α} (h : Q.ok ρ c x) (h' : Q.ok ρ' news x') : Q.ok ρ' (over c 0 news) x' := by
 have e := over_all news c 0 [] rfl (by rw [Q.len h, Q.len h'])
 simp only [List.nil_append] at e
 rw [e]; exact h'
theorem o_put' [Inhabited α] {x' : α} {zs : List α} {o : Nat} {ad : Addr} (hsz : (P.info? t).map (·.size) = some news.length) (hx : ev E x = .pointer (some ad)) (hy : ev E y = v) (hv : v.cells = ⟨news⟩) (hone : allOne news = true)
  (had : ad = ((adr A).add (i.toNat * Q.sz)).add o) (hb : inb i xs.length) (ho : Nat.ble (o + news.length) Q.sz = true) (hS : St w0 w (vec e Q.sz (.slice A len cap) len cs :: l)) (hR : RepL Q ρ xs cs) (hle : Le ρ ρ')
  (hok : ∀ c, Q.ok ρ c (gt xs i) → Q.ok ρ' (over c o news) x') (hz : zs = stt xs i x')
  (h : ∀ cs' w', RepL Q ρ' zs cs' → St w0 w' (vec e Q.sz (.slice A len cap) len cs' :: l) → S P n R (.ops all rest :: st) (E.ins dd undef) w') (hd : fits dd n = true := by rfl) :
  S P n R (.ops all (⟨dd, .store t x y, ty, pos, af, none⟩ :: rest) :: st) E w := o_put hsz hx hy hv hone had hb (Nat.le_of_ble_eq_true ho) hS hR hle hok (by subst hz; exact h) hd
theorem ystr {s : ByteArray} {z : Int} (ht : P.underlying t = some .string) (hx : ev E x = .string s) (hy : ev E y = .int k i) (hb : inb i s.size) (hz : z = byteAt s i) : Yl P E ⟨dd, .index t x y, ty, pos, af, g⟩ (.int .u8 z) := hz ▸ yl_index_string ht hx hy hb.1 hb.2
theorem ro_back0 (hle : Le ρ ρ') (h : St w0 w (ro ρ' :: l)) : St w0 w (ro ρ :: l) := St.ro_back hle h
/-! Parts of slices -/
theorem RdS.sub {lo hi : Int} {zs : List α} (h : RdS Q ρ A len cap xs) (hb : 0 ≤ lo ∧ lo ≤ hi ∧ hi ≤ xs.length) (hz : zs = X.sub xs lo hi) :
  ∃ A' n' c', (A' = (if cap - lo.toNat = 0 then A else A.map (·.add (lo.toNat * Q.sz))) ∧ n' = hi.toNat - lo.toNat ∧ c' = cap - lo.toNat ∧ hi.toNat ≤ cap) ∧ RdS Q ρ A' n' c' zs := by
 subst hz
 have hn := h.1
 have hc := h.2.1
 exact ⟨_, _, _, ⟨rfl, rfl, rfl, by omega⟩, h.part lo.toNat hi.toNat (by omega) (by omega)⟩
variable {lo hi : Int} {kl kh : IntKind} {A' : Option Addr} {n' c' : Nat} {a b : Operand}
theorem ysub_gen (lo? hi? : Option Operand) (ht : sliceB P t = some (e, sz, by_)) (hx : ev E x = .slice A len cap) (hlo : match lo? with | none => lo = 0 | some a => ∃ k, ev E a = Value.int k lo) (hhi : match hi? with | none => hi.toNat = len | some a => ∃ k, ev E a = Value.int k hi)
  (hb : 0 ≤ lo ∧ lo ≤ hi) (hd : A' = (if cap - lo.toNat = 0 then A else A.map (·.add (lo.toNat * sz))) ∧ n' = hi.toNat - lo.toNat ∧ c' = cap - lo.toNat ∧ hi.toNat ≤ cap) :
  Yl P E ⟨dd, .slice t x lo? hi? none, ty, pos, af, g⟩ (.slice A' n' c') := fun w => by
 obtain ⟨hu, inf, hi', hi1, _⟩ := sliceB_spec ht
 obtain ⟨rfl, rfl, rfl, hcap⟩ := hd
 subst hi1
 have hlo' := hlo
 obtain ⟨h0, h1⟩ := hb
 have hhc : hi ≤ cap := by omega
 have hlc : lo ≤ cap := by omega
 have q1 : (if cap = lo.toNat then A else A.map (·.add (lo.toNat * inf.size))) = (if cap - lo.toNat = 0 then A else A.map (·.add (lo.toNat * inf.size))) := by
  by_cases hc : cap = lo.toNat
  ·rw [if_pos hc, if_pos (by omega)]
  ·rw [if_neg hc, if_neg (by omega)]
 rw [← q1]
 cases lo? with
 | none =>
  simp only at hlo'
  subst hlo'
  cases hi? with
  | none =>
   simp only at hhi
   simp [At, execOp, hx, Instr.sliceAt, Instr.slice, Instr.sliceBounds, Instr.sliceBound, run_underlying hu, sizeOf, typeInfo, hi', pure, Sem.run, hhi]
  | some b =>
   obtain ⟨k, hk⟩ := hhi
   simp [At, execOp, hx, hk, Instr.sliceAt, Instr.slice, Instr.sliceBounds, Instr.sliceBound, asIntOf, run_underlying hu, sizeOf, typeInfo, hi', pure, Sem.run, h1, hhc]
 | some a =>
  obtain ⟨k, hk⟩ := hlo'
  cases hi? with
  | none =>
   simp only at hhi
   have hll : lo ≤ len := by omega
   have : len ≤ cap := by omega
   simp [At, execOp, hx, hk, Instr.sliceAt, Instr.slice, Instr.sliceBounds, Instr.sliceBound, asIntOf, run_underlying hu, sizeOf, typeInfo, hi', pure, Sem.run, h0, h1, hhc, hlc, hll, hhi]
  | some b =>
   obtain ⟨k2, hk2⟩ := hhi
   have h02 : 0 ≤ hi := by omega
   have h03 : max hi 0 = hi := by omega
   simp [h02, h03, At, execOp, hx, hk, hk2, Instr.sliceAt, Instr.slice, Instr.sliceBounds, Instr.sliceBound, asIntOf, run_underlying hu, sizeOf, typeInfo, hi', pure, Sem.run, h0, h1, hhc, hlc]
theorem ysub_h (ht : sliceB P t = some (e, sz, by_)) (hx : ev E x = .slice A len cap) (hb' : ev E b = .int kh hi) (hb : 0 ≤ (0 : Int) ∧ (0 : Int) ≤ hi ∧ hi ≤ xs.length) (hd : A' = (if cap - (0 : Int).toNat = 0 then A else A.map (·.add ((0 : Int).toNat * sz))) ∧ n' = hi.toNat - (0 : Int).toNat ∧ c' = cap - (0 : Int).toNat ∧ hi.toNat ≤ cap) :
  Yl P E ⟨dd, .slice t x none (some b) none, ty, pos, af, g⟩ (.slice A' n' c') := ysub_gen none (some b) (lo := 0) ht hx rfl ⟨_, hb'⟩ ⟨hb.1, hb.2.1⟩ hd
/-! Least and greatest -/
variable {p q r s z : Int} {c d' : Operand} {t1 t2 t3 t4 : TypeId}
theorem ymin' (ha : ev E a = .int k p) (hb : ev E b = .int k q) (hz : z = min p q) : Yl P E ⟨dd, .call { callee := .builtin .min, args := #[a, b], argTypes := #[t1, t2] }, ty, pos, af, g⟩ (.int k z) := hz ▸ ymin ha hb
theorem ymax' (ha : ev E a = .int k p) (hb : ev E b = .int k q) (hz : z = max p q) : Yl P E ⟨dd, .call { callee := .builtin .max, args := #[a, b], argTypes := #[t1, t2] }, ty, pos, af, g⟩ (.int k z) := hz ▸ ymax ha hb
theorem max2_run (p q : Int) (w : World) : (Builtin.max2 (.int k p) (.int k q)).run P w = .ok (.int k (max p q)) w := by
 have e : (if p < q then q else p) = max p q := by simp only [Int.max_def]; split <;> split <;> omega
 simp [Builtin.max2, pure, Sem.run, ← e]
theorem ymax4 (ha : ev E a = .int k p) (hb : ev E b = .int k q) (hc : ev E c = .int k r) (hd : ev E d' = .int k s) (hz : z = max (max (max p q) r) s) : Yl P E ⟨dd, .call { callee := .builtin .max, args := #[a, b, c, d'], argTypes := #[t1, t2, t3, t4] }, ty, pos, af, g⟩ (.int k z) := fun w => by
 subst hz
 simp [At, execOp, resolve, invoke, builtin, ha, hb, hc, hd, Builtin.max_, max2_run, pure, Sem.run]
theorem capargs {first cap vs us : List Value} {args : Array Operand} (h : args.toList.map (ev E) = us) (hv : first ++ us ++ cap = vs := by rfl) : (⟨first⟩ : Array Value).toList ++ args.toList.map (ev E) ++ (⟨cap⟩ : Array Value).toList = vs := by rw [h]; exact hv
end
end Go.Proofs.YtgmjhlpjlggpiaaDoor.X

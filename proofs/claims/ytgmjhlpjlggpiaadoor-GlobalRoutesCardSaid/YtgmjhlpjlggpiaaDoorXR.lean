/- The executor, regions that draw their order and whose operations act: what each operation takes and gives, told once for each; the order's choice is met by a check on what lies before what. Lemmas over any program. -/
import Derived.Test.YtgmjhlpjlggpiaaDoorXE
import Derived.Laws.IdiomCopy
namespace Go.Proofs.YtgmjhlpjlggpiaaDoor.X
open Go Go.RowKit
set_option linter.unusedVariables false
set_option linter.unusedSimpArgs false

def memB (n : Nat) : List Nat → Bool
 | [] => false
 | m :: l => bif Nat.beq n m then true else memB n l
theorem memB_iff {n : Nat} : ∀ {l : List Nat}, memB n l = true ↔ n ∈ l
 | [] => by simp [memB]
 | m :: l => by
  simp only [memB, List.mem_cons]
  cases h : Nat.beq n m with
  | true => simp [Nat.eq_of_beq_eq_true h]
  | false => simp [memB_iff (l := l), Nat.ne_of_beq_eq_false h]
def nodupB : List Nat → Bool
 | [] => true
 | a :: l => !memB a l && nodupB l
theorem nodupB_spec : ∀ {l : List Nat}, nodupB l = true → l.Nodup
 | [], _ => by simp
 | a :: l, h => by
  simp only [nodupB, Bool.and_eq_true, Bool.not_eq_true'] at h
  exact List.nodup_cons.2 ⟨fun hm => by rw [memB_iff.2 hm] at h; simp at h, nodupB_spec h.2⟩
/-- The slots of s alone. -/
def rs (s : List Nat) (E : Env) : Env := fun t => bif memB t s then E t else undef
theorem rs_congr {s : List Nat} {E E' : Env} (h : ∀ t ∈ s, E t = E' t) : rs s E = rs s E' := by
 funext t
 simp only [rs]
 cases hm : memB t s with
 | true => simp [h t (memB_iff.1 hm)]
 | false => rfl

/-- One operation among the others: what lies before it, whose facts it wants, the slots that its fact speaks of, the tokens that it borrows, takes and gives; alt: a token that it borrows, or the other one, that an operation gives which takes the first and may come before it or behind it. -/
structure PB where
 anc : List Nat
 need : List Nat
 sup : List Nat
 use : List Nat
 eat : List Nat
 give : List Nat
 alt : Option (Nat × Nat) := none
/-- A token: who gives it, who takes it, the slots that it speaks of. -/
structure TB where
 prod : Option Nat
 cons : Option Nat
 sup : List Nat
def pbAt (ps : List PB) (i : Nat) : PB := ps.getD i ⟨[], [], [], [], [], [], none⟩
def tbAt (ts : List TB) (t : Nat) : TB := ts.getD t ⟨none, none, []⟩
def direct (all : Array Oper) (i : Nat) : List Nat := match all[i]? with
 | none => []
 | some o => (o.after.toList.filter (Region.binds .any)).map (·.on)
def dstAt (all : Array Oper) (i : Nat) : Option Nat := (all[i]?).bind (·.dst)
def optB (o : Option Nat) (n : Nat) : Bool := match o with | none => false | some m => Nat.beq m n
theorem optB_iff {o : Option Nat} {n : Nat} : optB o n = true ↔ o = some n := by
 cases o with
 | none => simp [optB]
 | some m => simp only [optB, Option.some.injEq]; exact Nat.beq_eq ▸ Iff.rfl
def givenB (o : Option Nat) (anc : List Nat) : Bool := match o with | none => true | some q => memB q anc
def laterB (ps : List PB) (o : Option Nat) (i : Nat) : Bool := match o with | none => true | some c => memB i (pbAt ps c).anc

def altB (ps : List PB) (ts : List TB) (i : Nat) : Bool := match (pbAt ps i).alt with
 | none => true
 | some (t, t') => Nat.blt t ts.length && Nat.blt t' ts.length && givenB (tbAt ts t).prod (pbAt ps i).anc && laterB ps (tbAt ts t').cons i &&
  nodupB ((pbAt ps i).use ++ [t] ++ (pbAt ps i).eat) && nodupB ((pbAt ps i).use ++ [t] ++ (pbAt ps i).give) && nodupB ((pbAt ps i).use ++ [t'] ++ (pbAt ps i).eat) && nodupB ((pbAt ps i).use ++ [t'] ++ (pbAt ps i).give) &&
  match (tbAt ts t).cons with
  | none => false
  | some c => optB (tbAt ts t').prod c && !Nat.beq c i
def opB (all : Array Oper) (ps : List PB) (ts : List TB) (ds : List Nat) (n m i : Nat) : Bool :=
 (direct all i).all (fun j => Nat.blt j i) &&
 (pbAt ps i).anc.all (fun j => memB j (direct all i) || (direct all i).any (fun k => memB j (pbAt ps k).anc)) &&
 (pbAt ps i).need.all (fun j => memB j (pbAt ps i).anc) &&
 (pbAt ps i).use.all (fun t => Nat.blt t ts.length && givenB (tbAt ts t).prod (pbAt ps i).anc && laterB ps (tbAt ts t).cons i) &&
 (pbAt ps i).eat.all (fun t => Nat.blt t ts.length && givenB (tbAt ts t).prod (pbAt ps i).anc && optB (tbAt ts t).cons i) &&
 (pbAt ps i).give.all (fun t => Nat.blt t ts.length && optB (tbAt ts t).prod i) &&
 nodupB ((pbAt ps i).use ++ (pbAt ps i).eat) && nodupB ((pbAt ps i).use ++ (pbAt ps i).give) && altB ps ts i &&
 (match dstAt all i with
  | none => true
  | some d => Nat.blt d n && memB d ds &&
   (List.range m).all (fun k => Nat.beq k i || memB i (pbAt ps k).anc || !memB d (pbAt ps k).sup) &&
   (List.range ts.length).all (fun t => !memB d (tbAt ts t).sup || (match (tbAt ts t).prod with | none => false | some q => Nat.beq q i || memB i (pbAt ps q).anc)))
def tokB (ps : List PB) (ts : List TB) (m t : Nat) : Bool :=
 (match (tbAt ts t).prod with | none => true | some q => memB t (pbAt ps q).give && Nat.blt q m) &&
 (match (tbAt ts t).cons with | none => true | some c => memB t (pbAt ps c).eat && Nat.blt c m && givenB (tbAt ts t).prod (pbAt ps c).anc)
def listB : List Nat → List Nat → Bool
 | [], [] => true
 | a :: r, b :: s => Nat.beq a b && listB r s
 | _, _ => false
theorem listB_spec : ∀ {a b : List Nat}, listB a b = true → a = b
 | [], [], _ => rfl
 | a :: r, b :: s, h => by
  simp only [listB, Bool.and_eq_true] at h
  rw [Nat.eq_of_beq_eq_true h.1, listB_spec h.2]
 | [], _ :: _, h => by simp [listB] at h
 | _ :: _, [], h => by simp [listB] at h
def parB (all : Array Oper) (ps : List PB) (ts : List TB) (ds : List Nat) (n : Nat) : Bool :=
 (List.range all.size).all (opB all ps ts ds n all.size) && (List.range ts.length).all (tokB ps ts all.size)

/-! ### Lists of tokens, those that are away told as 'emp' -/
section
variable {w0 w : World} {l : List Assn}
theorem toks_flt {p : Nat → Bool} {a : Nat → Assn} : ∀ (ts : List Nat) (pre : List Assn), St w0 w (pre ++ ((ts.map fun t => if p t then a t else emp) ++ l)) ↔ St w0 w (pre ++ ((ts.filter p).map a ++ l))
 | [], pre => by simp
 | t :: ts, pre => by
  cases h : p t with
  | true =>
   have := toks_flt (p := p) (a := a) ts (pre ++ [a t])
   simpa [h] using this
  | false =>
   have := toks_flt (p := p) (a := a) ts pre
   simp only [List.map_cons, h, List.filter_cons, if_false, Bool.false_eq_true, List.cons_append]
   rw [← this]
   constructor
   ·intro hs; exact (hs.perm List.perm_middle).drop
   ·intro hs; exact hs.emp.perm List.perm_middle.symm
theorem perm_parts {ins : List Nat} : ∀ {L : List Nat}, ins.Nodup → L.Nodup → (∀ t ∈ ins, t ∈ L) → L.Perm (ins ++ L.filter (fun t => !memB t ins)) := by
 induction ins with
 | nil =>
  intro L _ _ _
  have : L.filter (fun t => !memB t []) = L := List.filter_eq_self.2 (by simp [memB])
  rw [List.nil_append, this]
 | cons a r ih =>
  intro L hn hL hs
  obtain ⟨h1, h2⟩ := List.nodup_cons.1 hn
  have ha : a ∈ L := hs a (by simp)
  refine (List.perm_cons_erase ha).trans (.cons a ?_)
  have hE := hL.erase_eq_filter a
  have h3 := ih (L := L.erase a) h2 (hL.erase a) (fun t ht => by
   rw [hE, List.mem_filter]
   refine ⟨hs t (by simp [ht]), ?_⟩
   have : t ≠ a := fun e => h1 (e ▸ ht)
   simpa using this)
  refine h3.trans ?_
  rw [hE, List.filter_filter]
  refine List.Perm.append_left _ (List.Perm.of_eq ?_)
  refine List.filter_congr fun t _ => ?_
  simp only [memB]
  cases hb : Nat.beq t a with
  | true => simp [Nat.eq_of_beq_eq_true hb]
  | false => simp [Nat.ne_of_beq_eq_false hb]
def tk (n : Nat) (g : Nat → Assn) : List Assn := (List.range n).map g
theorem tk_take {nt : Nat} {ins : List Nat} (hn : ins.Nodup) (hl : ∀ t ∈ ins, t < nt) {g : Nat → Assn} (h : St w0 w (tk nt g ++ l)) :
  St w0 w (ins.map g ++ (tk nt (fun t => if !memB t ins then g t else emp) ++ l)) := by
 have hp := perm_parts hn List.nodup_range (fun t ht => List.mem_range.2 (hl t ht)) (L := List.range nt)
 have h1 : St w0 w (ins.map g ++ (((List.range nt).filter (fun t => !memB t ins)).map g ++ l)) := by
  refine h.perm ?_
  rw [← List.append_assoc, ← List.map_append]
  exact (hp.map g).append_right l
 exact (toks_flt (p := fun t => !memB t ins) (a := g) (List.range nt) (ins.map g)).2 h1
theorem tk_put {nt : Nat} {outs : List Nat} (hn : outs.Nodup) (hl : ∀ t ∈ outs, t < nt) {a g : Nat → Assn} (hg : ∀ t ∈ outs, g t = emp) (h : St w0 w (outs.map a ++ (tk nt g ++ l))) :
  St w0 w (tk nt (fun t => if memB t outs then a t else g t) ++ l) := by
 have hp := perm_parts hn List.nodup_range (fun t ht => List.mem_range.2 (hl t ht)) (L := List.range nt)
 have h1 : St w0 w (outs.map a ++ (outs.map g ++ (((List.range nt).filter (fun t => !memB t outs)).map g ++ l))) := by
  refine h.perm (List.Perm.append_left _ ?_)
  rw [← List.append_assoc, ← List.map_append]
  exact (hp.map g).append_right l
 have h2 : outs.map g = outs.map (fun t => if (fun _ => false) t then a t else emp) := List.map_congr_left fun t ht => by simp [hg t ht]
 rw [h2] at h1
 have h3 := (toks_flt (p := fun _ => false) (a := a) outs (outs.map a)).1 h1
 rw [show outs.filter (fun _ => false) = [] from List.filter_eq_nil_iff.2 (by simp)] at h3
 refine h3.perm ?_
 have e1 : outs.map a = outs.map (fun t => if memB t outs then a t else g t) := List.map_congr_left fun t ht => by simp [memB_iff.2 ht]
 have e2 : ((List.range nt).filter (fun t => !memB t outs)).map g = ((List.range nt).filter (fun t => !memB t outs)).map (fun t => if memB t outs then a t else g t) := List.map_congr_left fun t ht => by
  have := (List.mem_filter.1 ht).2
  simp only [Bool.not_eq_true'] at this
  simp [this]
 rw [e2, List.map_nil, List.nil_append, e1, ← List.append_assoc, ← List.map_append]
 exact ((hp.map _).append_right l).symm
end

theorem wp_mono2 {P : Program} {o : Oper} {a : Act} {w : World} {K K' : Act → World → Prop} {Q Q' : Exit → Act → World → Prop} (h : ∀ a w, K a w → K' a w) (hQ : ∀ e a w, (∀ c, e = .panic c → ¬ Q e a w) ∧ ¬ Q .outgrown a w)
  (hh : o.wp P a w K Q) : o.wp P a w K' Q' := by
 unfold Oper.wp at *
 generalize (execOp a.eval o).run P w = r at *
 cases r with
 | ok n w' =>
  cases n <;> simp only [Oper.upon] at hh ⊢ <;>
   first
    | exact h _ _ hh
    | exact Rows.mono hh (fun _ _ he => h _ _ he)
    | skip
  exact Calls.mono hh (fun e w'' he => by
   cases e with
   | returned v => exact h _ _ he
   | panicked c => exact absurd he ((hQ _ _ _).1 c rfl)
   | outgrown => obtain ⟨a1, w1, h1⟩ := he; exact absurd h1 (hQ .normal _ _).2)
 | halt x w' =>
  cases x <;> simp only [Oper.upon] at hh ⊢
  all_goals first | exact absurd hh ((hQ _ _ _).1 _ rfl) | exact hh

section
variable (P : Program) (n : Nat) (all : Array Oper) (ps : List PB) (ts : List TB) (ds : List Nat) (F : List (Env → Prop)) (T : List (Env → Assn)) (E0 : Env) (w0 : World) (l : List Assn)
def Fa (i : Nat) (E : Env) : Prop := (F.getD i (fun _ => True)) (rs (pbAt ps i).sup E)
def Ta (t : Nat) (E : Env) : Assn := (T.getD t (fun _ => emp)) (rs (tbAt ts t).sup E)
def FA (E : Env) : List Nat → Prop
 | [] => True
 | j :: r => Fa ps F j E ∧ FA E r
def present (D : Nat → Bool) (t : Nat) : Bool :=
 (match (tbAt ts t).prod with | none => true | some q => D q) && (match (tbAt ts t).cons with | none => true | some c => !D c)
structure PInv (D : Nat → Bool) (E : Env) (w : World) : Prop where
 closed : ∀ k, D k = true → ∀ j ∈ (pbAt ps k).anc, D j = true
 same : ∀ t, (∀ j, D j = true → dstAt all j ≠ some t) → E t = E0 t
 facts : ∀ k, k < all.size → D k = true → Fa ps F k E
 st : St w0 w (tk ts.length (fun t => if present ts D t then Ta ts T t E else emp) ++ l)
/-- Is slot t written by an operation that does not come after operation i? -/
def lateB (i t : Nat) : Bool := (List.range all.size).any fun j => (match dstAt all j with | some d => Nat.beq d t | none => false) && !memB i (pbAt ps j).anc
/-- What is to be shown of one operation that borrows the tokens us. -/
def Obu (us : List Nat) (i : Nat) (o : Oper) : Prop := ∀ (E : Env) (w : World) (l' : List Assn), (∀ t, memB t ds = false → E t = E0 t) → (∀ t, lateB all ps i t = false → E t = E0 t) → FA ps F E (pbAt ps i).need →
 St w0 w ((us ++ (pbAt ps i).eat).map (fun t => Ta ts T t E) ++ l') →
 S P n (fun E' w' => (∃ v, E' = E.ins o.dst v) ∧ Fa ps F i E' ∧ St w0 w' ((us ++ (pbAt ps i).give).map (fun t => Ta ts T t E') ++ l')) [.ops all [o]] E w
/-- What is to be shown of one operation. -/
def Ob (i : Nat) (o : Oper) : Prop := match (pbAt ps i).alt with
 | none => Obu P n all ps ts ds F T E0 w0 (pbAt ps i).use i o
 | some (t, t') => Obu P n all ps ts ds F T E0 w0 ((pbAt ps i).use ++ [t]) i o ∧ Obu P n all ps ts ds F T E0 w0 ((pbAt ps i).use ++ [t']) i o
def Obs : Nat → List Oper → Prop
 | _, [] => True
 | i, o :: r => Ob P n all ps ts ds F T E0 w0 i o ∧ Obs (i + 1) r
end
section
variable {P : Program} {n : Nat} {all : Array Oper} {ps : List PB} {ts : List TB} {ds : List Nat} {F : List (Env → Prop)} {T : List (Env → Assn)} {E0 : Env} {w0 : World} {l : List Assn}
theorem Obs.get : ∀ {i : Nat} {ops : List Oper}, Obs P n all ps ts ds F T E0 w0 i ops → ∀ (j : Nat) (o : Oper), ops[j]? = some o → Ob P n all ps ts ds F T E0 w0 (i + j) o
 | _, [], _, j, o, h => by simp at h
 | i, a :: r, h, 0, o, ho => by
  simp at ho; subst ho; exact h.1
 | i, a :: r, h, j + 1, o, ho => by
  have := Obs.get h.2 j o (by simpa using ho)
  rwa [show i + 1 + j = i + (j + 1) by omega] at this
theorem FA_of {E : Env} : ∀ {js : List Nat}, (∀ j ∈ js, Fa ps F j E) → FA ps F E js
 | [], _ => trivial
 | j :: r, h => ⟨h j (by simp), FA_of fun k hk => h k (by simp [hk])⟩

/-- What the check says, told apart. -/
structure OpC (all : Array Oper) (ps : List PB) (ts : List TB) (ds : List Nat) (n i : Nat) : Prop where
 lt : ∀ j ∈ direct all i, j < i
 anc : ∀ j ∈ (pbAt ps i).anc, j ∈ direct all i ∨ ∃ k ∈ direct all i, j ∈ (pbAt ps k).anc
 need : ∀ j ∈ (pbAt ps i).need, j ∈ (pbAt ps i).anc
 use : ∀ t ∈ (pbAt ps i).use, t < ts.length ∧ (∀ q, (tbAt ts t).prod = some q → q ∈ (pbAt ps i).anc) ∧ (∀ c, (tbAt ts t).cons = some c → i ∈ (pbAt ps c).anc)
 eat : ∀ t ∈ (pbAt ps i).eat, t < ts.length ∧ (∀ q, (tbAt ts t).prod = some q → q ∈ (pbAt ps i).anc) ∧ (tbAt ts t).cons = some i
 give : ∀ t ∈ (pbAt ps i).give, t < ts.length ∧ (tbAt ts t).prod = some i
 alt : ∀ t t', (pbAt ps i).alt = some (t, t') → t < ts.length ∧ t' < ts.length ∧ (∀ q, (tbAt ts t).prod = some q → q ∈ (pbAt ps i).anc) ∧ (∀ c, (tbAt ts t').cons = some c → i ∈ (pbAt ps c).anc) ∧
  ((pbAt ps i).use ++ [t] ++ (pbAt ps i).eat).Nodup ∧ ((pbAt ps i).use ++ [t] ++ (pbAt ps i).give).Nodup ∧ ((pbAt ps i).use ++ [t'] ++ (pbAt ps i).eat).Nodup ∧ ((pbAt ps i).use ++ [t'] ++ (pbAt ps i).give).Nodup ∧
  ∃ c, (tbAt ts t).cons = some c ∧ (tbAt ts t').prod = some c ∧ c ≠ i
 nd1 : ((pbAt ps i).use ++ (pbAt ps i).eat).Nodup
 nd2 : ((pbAt ps i).use ++ (pbAt ps i).give).Nodup
 dst : ∀ d, dstAt all i = some d → d < n ∧ d ∈ ds ∧ (∀ k, k < all.size → k = i ∨ i ∈ (pbAt ps k).anc ∨ d ∉ (pbAt ps k).sup) ∧ (∀ t, t < ts.length → d ∉ (tbAt ts t).sup ∨ ∃ q, (tbAt ts t).prod = some q ∧ (q = i ∨ i ∈ (pbAt ps q).anc))
theorem givenB_spec {o : Option Nat} {a : List Nat} (h : givenB o a = true) : ∀ q, o = some q → q ∈ a := by
 rintro q rfl; exact memB_iff.1 h
theorem laterB_spec {o : Option Nat} {i : Nat} (h : laterB ps o i = true) : ∀ c, o = some c → i ∈ (pbAt ps c).anc := by
 rintro q rfl; exact memB_iff.1 h
theorem altB_spec {i : Nat} (h : altB ps ts i = true) : ∀ t t', (pbAt ps i).alt = some (t, t') → t < ts.length ∧ t' < ts.length ∧ (∀ q, (tbAt ts t).prod = some q → q ∈ (pbAt ps i).anc) ∧ (∀ c, (tbAt ts t').cons = some c → i ∈ (pbAt ps c).anc) ∧
  ((pbAt ps i).use ++ [t] ++ (pbAt ps i).eat).Nodup ∧ ((pbAt ps i).use ++ [t] ++ (pbAt ps i).give).Nodup ∧ ((pbAt ps i).use ++ [t'] ++ (pbAt ps i).eat).Nodup ∧ ((pbAt ps i).use ++ [t'] ++ (pbAt ps i).give).Nodup ∧
  ∃ c, (tbAt ts t).cons = some c ∧ (tbAt ts t').prod = some c ∧ c ≠ i := by
 intro t t' e
 unfold altB at h
 rw [e] at h
 simp only [Bool.and_eq_true, Nat.blt_eq] at h
 obtain ⟨⟨⟨⟨⟨⟨⟨⟨h1, h2⟩, h3⟩, h4⟩, h5⟩, h6⟩, h7⟩, h8⟩, h9⟩ := h
 refine ⟨h1, h2, givenB_spec h3, laterB_spec h4, nodupB_spec h5, nodupB_spec h6, nodupB_spec h7, nodupB_spec h8, ?_⟩
 cases hc : (tbAt ts t).cons with
 | none => rw [hc] at h9; cases h9
 | some c =>
  rw [hc] at h9
  simp only [Bool.and_eq_true, optB_iff, Bool.not_eq_true'] at h9
  exact ⟨c, rfl, h9.1, fun e => by rw [e] at h9; simp at h9⟩
theorem opB_spec {i : Nat} (h : opB all ps ts ds n all.size i = true) : OpC all ps ts ds n i := by
 simp only [opB, Bool.and_eq_true, List.all_eq_true, Bool.or_eq_true, List.any_eq_true, memB_iff, Nat.blt_eq, optB_iff] at h
 obtain ⟨⟨⟨⟨⟨⟨⟨⟨⟨h1, h2⟩, h3⟩, h4⟩, h5⟩, h6⟩, h7⟩, h8⟩, hal⟩, h9⟩ := h
 refine ⟨h1, fun j hj => h2 j hj, h3, fun t ht => ⟨(h4 t ht).1.1, givenB_spec (h4 t ht).1.2, laterB_spec (h4 t ht).2⟩, fun t ht => ⟨(h5 t ht).1.1, givenB_spec (h5 t ht).1.2, (h5 t ht).2⟩, h6, altB_spec hal, nodupB_spec h7, nodupB_spec h8, fun d hd => ?_⟩
 rw [hd] at h9
 simp only [Bool.and_eq_true, List.all_eq_true, Bool.or_eq_true, memB_iff, Nat.blt_eq, List.mem_range, Bool.not_eq_true'] at h9
 obtain ⟨⟨⟨h10, h11⟩, h12⟩, h13⟩ := h9
 refine ⟨h10, h11, fun k hk => ?_, fun t ht => ?_⟩
 ·rcases h12 k hk with (h | h) | h
  ·exact .inl (Nat.eq_of_beq_eq_true h)
  ·exact .inr (.inl h)
  ·exact .inr (.inr fun hm => by rw [memB_iff.2 hm] at h; cases h)
 ·rcases h13 t ht with h | h
  ·exact .inl fun hm => by rw [memB_iff.2 hm] at h; cases h
  ·cases hp : (tbAt ts t).prod with
   | none => rw [hp] at h; cases h
   | some q =>
    rw [hp] at h
    simp only [Bool.or_eq_true, memB_iff] at h
    exact .inr ⟨q, rfl, h.imp (fun h => Nat.eq_of_beq_eq_true h) id⟩
structure TokC (all : Array Oper) (ps : List PB) (ts : List TB) (t : Nat) : Prop where
 prod : ∀ q, (tbAt ts t).prod = some q → t ∈ (pbAt ps q).give ∧ q < all.size
 cons : ∀ c, (tbAt ts t).cons = some c → t ∈ (pbAt ps c).eat ∧ c < all.size ∧ ∀ q, (tbAt ts t).prod = some q → q ∈ (pbAt ps c).anc
theorem tokB_spec {t : Nat} (h : tokB ps ts all.size t = true) : TokC all ps ts t := by
 simp only [tokB, Bool.and_eq_true] at h
 obtain ⟨h1, h2⟩ := h
 refine ⟨fun q hq => ?_, fun c hc => ?_⟩
 ·rw [hq] at h1
  simp only [Bool.and_eq_true, memB_iff, Nat.blt_eq] at h1
  exact h1
 ·rw [hc] at h2
  simp only [Bool.and_eq_true, memB_iff, Nat.blt_eq] at h2
  exact ⟨h2.1.1, h2.1.2, givenB_spec h2.2⟩

def ins (D : Nat → Bool) (i : Nat) : Nat → Bool := fun k => bif Nat.beq k i then true else D k
theorem ins_iff {D : Nat → Bool} {i k : Nat} : ins D i k = true ↔ k = i ∨ D k = true := by
 unfold ins
 cases h : Nat.beq k i with
 | true => simp [Nat.eq_of_beq_eq_true h]
 | false => simp [Nat.ne_of_beq_eq_false h]
theorem present_iff {D : Nat → Bool} {t : Nat} : present ts D t = true ↔ (∀ q, (tbAt ts t).prod = some q → D q = true) ∧ (∀ c, (tbAt ts t).cons = some c → D c = false) := by
 unfold present
 cases (tbAt ts t).prod <;> cases (tbAt ts t).cons <;> simp

theorem Fa_congr {i : Nat} {E E' : Env} (h : ∀ t ∈ (pbAt ps i).sup, E t = E' t) (hF : Fa ps F i E) : Fa ps F i E' := by unfold Fa at *; rwa [← rs_congr h]
theorem Ta_congr {t : Nat} {E E' : Env} (h : ∀ u ∈ (tbAt ts t).sup, E u = E' u) : Ta ts T t E = Ta ts T t E' := by unfold Ta; rw [rs_congr h]
theorem ins_ne (E : Env) {d : Option Nat} {v : Value} {t : Nat} (h : ∀ u, d = some u → u ≠ t) : (E.ins d v) t = E t := by
 cases d with
 | none => rfl
 | some u => exact Env.set_ne _ _ (h u rfl).symm

theorem hanc_lt (hO : ∀ i, i < all.size → OpC all ps ts ds n i) : ∀ k, k < all.size → ∀ j ∈ (pbAt ps k).anc, j < k := by
 intro k
 induction k using Nat.strongRecOn with
 | _ k ih =>
  intro hk j hj
  rcases (hO k hk).anc j hj with h1 | ⟨q, h1, h2⟩
  ·exact (hO k hk).lt j h1
  ·have := (hO k hk).lt q h1
   have := ih q this (by omega) j h2
   omega
/-- One operation, from the others' state to the others' state. -/
theorem par_step (hO : ∀ i, i < all.size → OpC all ps ts ds n i) (hT : ∀ t, t < ts.length → TokC all ps ts t) {D : Nat → Bool} {E : Env} {w : World} (h : PInv all ps ts F T E0 w0 l D E w)
  {i : Nat} {o : Oper} (ho : all[i]? = some o) (hi : D i = false) (hpre : ∀ j ∈ direct all i, D j = true) (ob : Ob P n all ps ts ds F T E0 w0 i o) :
  S P n (fun E' w' => PInv all ps ts F T E0 w0 l (ins D i) E' w') [.ops all [o]] E w := by
 have him : i < all.size := (Array.getElem?_eq_some_iff.1 ho).1
 have hC := hO i him
 have hanc : ∀ j ∈ (pbAt ps i).anc, D j = true := fun j hj => by
  rcases hC.anc j hj with h1 | ⟨k, h1, h2⟩
  ·exact hpre j h1
  ·exact h.closed k (hpre k h1) j h2
 have hdst : dstAt all i = o.dst := by simp [dstAt, ho]
 have hus : ∃ us, Obu P n all ps ts ds F T E0 w0 us i o ∧ (us ++ (pbAt ps i).eat).Nodup ∧ (us ++ (pbAt ps i).give).Nodup ∧ ∀ t ∈ us, t < ts.length ∧ (∀ q, (tbAt ts t).prod = some q → D q = true) ∧ (∀ c, (tbAt ts t).cons = some c → D c = false ∧ c ≠ i) := by
  have hni : i ∉ (pbAt ps i).anc := fun h1 => by have := hanc i h1; rw [hi] at this; cases this
  have huse : ∀ t ∈ (pbAt ps i).use, t < ts.length ∧ (∀ q, (tbAt ts t).prod = some q → D q = true) ∧ (∀ c, (tbAt ts t).cons = some c → D c = false ∧ c ≠ i) := fun t ht => by
   obtain ⟨h2, h3, h4⟩ := hC.use t ht
   refine ⟨h2, fun q hq => hanc q (h3 q hq), fun c hc => ⟨?_, fun e => hni (by have := h4 c hc; rw [e] at this; exact this)⟩⟩
   cases hD : D c with
   | false => rfl
   | true => have := h.closed c hD i (h4 c hc); rw [hi] at this; cases this
  unfold Ob at ob
  cases ha : (pbAt ps i).alt with
  | none => rw [ha] at ob; exact ⟨_, ob, hC.nd1, hC.nd2, huse⟩
  | some tt =>
   obtain ⟨t1, t2⟩ := tt
   rw [ha] at ob
   obtain ⟨a1, a2, a3, a4, n1, n2, n3, n4, c, c1, c2, c3⟩ := hC.alt t1 t2 ha
   cases hDc : D c with
   | false =>
    refine ⟨_, ob.1, n1, n2, fun t ht => ?_⟩
    rcases List.mem_append.1 ht with h1 | h1
    ·exact huse t h1
    ·rw [List.mem_singleton.1 h1]
     exact ⟨a1, fun q hq => hanc q (a3 q hq), fun c' hc' => by rw [c1] at hc'; cases hc'; exact ⟨hDc, c3⟩⟩
   | true =>
    refine ⟨_, ob.2, n3, n4, fun t ht => ?_⟩
    rcases List.mem_append.1 ht with h1 | h1
    ·exact huse t h1
    ·rw [List.mem_singleton.1 h1]
     refine ⟨a2, fun q hq => by rw [c2] at hq; cases hq; exact hDc, fun c' hc' => ⟨?_, fun e => hni (by have := a4 c' hc'; rw [e] at this; exact this)⟩⟩
     cases hD : D c' with
     | false => rfl
     | true => have := h.closed c' hD i (a4 c' hc'); rw [hi] at this; cases this
 obtain ⟨us, obu, nd1, nd2, husp⟩ := hus
 have hpres : ∀ t ∈ us ++ (pbAt ps i).eat, t < ts.length ∧ present ts D t = true := fun t ht => by
  rcases List.mem_append.1 ht with h1 | h1
  ·obtain ⟨h2, h3, h4⟩ := husp t h1
   exact ⟨h2, present_iff.2 ⟨h3, fun c hc => (h4 c hc).1⟩⟩
  ·obtain ⟨h2, h3, h4⟩ := hC.eat t h1
   refine ⟨h2, present_iff.2 ⟨fun q hq => hanc q (h3 q hq), fun c hc => ?_⟩⟩
   rw [h4] at hc; cases hc; exact hi
 have hst := tk_take nd1 (fun t ht => (hpres t ht).1) h.st
 have e1 : (us ++ (pbAt ps i).eat).map (fun t => if present ts D t then Ta ts T t E else emp) = (us ++ (pbAt ps i).eat).map (fun t => Ta ts T t E) := List.map_congr_left fun t ht => by simp [(hpres t ht).2]
 rw [e1] at hst
 have hS := obu E w _ (fun t ht => h.same t fun j hj hd => by
  have hj' : j < all.size := by unfold dstAt at hd; cases h1 : all[j]? with | none => rw [h1] at hd; simp at hd | some o' => exact (Array.getElem?_eq_some_iff.1 h1).1
  have := ((hO j hj').dst t hd).2.1
  rw [memB_iff.2 this] at ht; cases ht) (fun t ht => h.same t fun j hj hd => by
  have hj' : j < all.size := by unfold dstAt at hd; cases h1 : all[j]? with | none => rw [h1] at hd; simp at hd | some o' => exact (Array.getElem?_eq_some_iff.1 h1).1
  have h2 := (List.any_eq_false.1 ht) j (List.mem_range.2 hj')
  rw [hd] at h2
  simp only [Nat.beq_refl, Bool.true_and, Bool.not_eq_true', Bool.not_eq_false] at h2
  have := h.closed j hj i (memB_iff.1 h2); rw [hi] at this; cases this) (FA_of fun j hj => by
  have hj' := hanc j (hC.need j hj)
  have hlt : j < all.size := by
   rcases hC.anc j (hC.need j hj) with h1 | ⟨k, h1, h2⟩
   ·have := hC.lt j h1; omega
   ·have hk := hC.lt k h1
    have := hanc_lt hO k (by omega) j h2
    omega
  exact h.facts j hlt hj') hst
 refine X_mono _ _ E w ?_ hS
 rintro E' w' ⟨⟨v, rfl⟩, hF, hS'⟩
 have hsame : ∀ t, (∀ d, o.dst = some d → d ≠ t) → (E.ins o.dst v) t = E t := fun t ht => ins_ne E ht
 have hst' := tk_put nd2 (fun t ht => by
  rcases List.mem_append.1 ht with h1 | h1
  ·exact (husp t h1).1
  ·exact (hC.give t h1).1) (fun t ht => by
  rcases List.mem_append.1 ht with h1 | h1
  ·simp [memB_iff.2 (List.mem_append_left (pbAt ps i).eat h1)]
  ·have : present ts D t = false := by
    cases hp : present ts D t with
    | false => rfl
    | true => have := (present_iff.1 hp).1 i (hC.give t h1).2; rw [hi] at this; cases this
   simp [this]) hS'
 refine ⟨?_, ?_, ?_, ?_⟩
 ·intro k hk j hj
  rcases ins_iff.1 hk with rfl | hk
  ·exact ins_iff.2 (.inr (hanc j hj))
  ·exact ins_iff.2 (.inr (h.closed k hk j hj))
 ·intro t ht
  rw [hsame t]
  ·exact h.same t fun j hj => ht j (ins_iff.2 (.inr hj))
  ·rintro d hd rfl
   exact ht i (ins_iff.2 (.inl rfl)) (by rw [hdst]; exact hd)
 ·intro k hk hD0
  rcases ins_iff.1 hD0 with rfl | hD1
  ·exact hF
  ·refine Fa_congr (fun t ht => (hsame t ?_).symm) (h.facts k hk hD1)
   rintro d hd rfl
   rcases (hC.dst d (by rw [hdst]; exact hd)).2.2.1 k hk with h1 | h1 | h1
   ·rw [h1, hi] at hD1; cases hD1
   ·have := h.closed k hD1 i h1; rw [hi] at this; cases this
   ·exact h1 ht
 ·refine Eq.mp (congrArg (fun L => St w0 w' (L ++ l)) ?_) hst'
  unfold tk
  refine List.map_congr_left fun t ht => ?_
  have ht := List.mem_range.1 ht
  have hTt := hT t ht
  cases hm : memB t (us ++ (pbAt ps i).give) with
  | true =>
   rw [if_pos rfl]
   have hp : present ts (ins D i) t = true := by
    refine present_iff.2 ⟨fun q hq => ?_, fun c hc => ?_⟩
    ·rcases List.mem_append.1 (memB_iff.1 hm) with h1 | h1
     ·exact ins_iff.2 (.inr ((husp t h1).2.1 q hq))
     ·have := (hC.give t h1).2; rw [this] at hq; cases hq; exact ins_iff.2 (.inl rfl)
    ·cases hD : ins D i c with
     | false => rfl
     | true =>
      rcases ins_iff.1 hD with h0 | h0
      ·subst h0
       rcases List.mem_append.1 (memB_iff.1 hm) with h1 | h1
       ·exact absurd rfl ((husp t h1).2.2 c hc).2
       ·have := (hTt.cons c hc).2.2 c (hC.give t h1).2
        have := hanc _ this; rw [hi] at this; cases this
      ·rcases List.mem_append.1 (memB_iff.1 hm) with h1 | h1
       ·have := ((husp t h1).2.2 c hc).1; rw [h0] at this; cases this
       ·have := h.closed c h0 i ((hTt.cons c hc).2.2 i (hC.give t h1).2); rw [hi] at this; cases this
   rw [if_pos hp]
  | false =>
   rw [if_neg (by simp)]
   have hno : t ∉ us ++ (pbAt ps i).give := fun hh => by rw [memB_iff.2 hh] at hm; cases hm
   cases hm2 : memB t (us ++ (pbAt ps i).eat) with
   | true =>
    have hin : t ∈ (pbAt ps i).eat := by
     rcases List.mem_append.1 (memB_iff.1 hm2) with h1 | h1
     ·exact absurd (List.mem_append_left _ h1) hno
     ·exact h1
    have hp : present ts (ins D i) t = false := by
     cases hp : present ts (ins D i) t with
     | false => rfl
     | true => have := (present_iff.1 hp).2 i (hC.eat t hin).2.2; rw [ins_iff.2 (.inl rfl)] at this; cases this
    simp [hp]
   | false =>
    have hpe : present ts (ins D i) t = present ts D t := by
     rw [Bool.eq_iff_iff, present_iff, present_iff]
     have hq0 : ∀ q, (tbAt ts t).prod = some q → q ≠ i := fun q hq e => by
      subst e; exact hno (List.mem_append_right _ (hTt.prod q hq).1)
     have hc0 : ∀ c, (tbAt ts t).cons = some c → c ≠ i := fun c hc e => by
      subst e
      have h1 := (hTt.cons c hc).1
      rw [memB_iff.2 (List.mem_append_right _ h1)] at hm2; cases hm2
     constructor
     ·rintro ⟨h1, h2⟩
      refine ⟨fun q hq => ?_, fun c hc => ?_⟩
      ·rcases ins_iff.1 (h1 q hq) with h3 | h3
       ·exact absurd h3 (hq0 q hq)
       ·exact h3
      ·cases hD : D c with
       | false => rfl
       | true => have := h2 c hc; rw [ins_iff.2 (.inr hD)] at this; cases this
     ·rintro ⟨h1, h2⟩
      refine ⟨fun q hq => ins_iff.2 (.inr (h1 q hq)), fun c hc => ?_⟩
      cases hD : ins D i c with
      | false => rfl
      | true =>
       rcases ins_iff.1 hD with h3 | h3
       ·exact absurd h3 (hc0 c hc)
       ·rw [h2 c hc] at h3; cases h3
    rw [hpe]
    cases hp : present ts D t with
    | false => simp
    | true =>
     simp only [Bool.not_false, if_true]
     refine Ta_congr fun u hu => (hsame u ?_).symm
     rintro d hd rfl
     rcases (hC.dst d (by rw [hdst]; exact hd)).2.2.2 t ht with h1 | ⟨q, hq, h1⟩
     ·exact h1 hu
     ·have hDq := (present_iff.1 hp).1 q hq
      rcases h1 with h1 | h1
      ·subst h1; rw [hi] at hDq; cases hDq
      ·have := h.closed q hDq i h1; rw [hi] at this; cases this

theorem setG {a : Array Bool} {i k : Nat} (h : i < a.size) : (a.setIfInBounds i true).getD k false = ins (fun k => a.getD k false) i k := by
 unfold ins
 simp only [Array.getD_eq_getD_getElem?]
 cases hb : Nat.beq k i with
 | true =>
  have := Nat.eq_of_beq_eq_true hb
  subst this
  simp [h]
 | false =>
  have := Nat.ne_of_beq_eq_false hb
  rw [Array.getElem?_setIfInBounds_ne (Ne.symm this)]
  rfl
def cnt (a : Array Bool) : Nat := a.toList.countP (fun b => !b)
theorem cnt_set {a : Array Bool} {i : Nat} (h : i < a.size) (hf : a.getD i true = false) : cnt (a.setIfInBounds i true) + 1 = cnt a := by
 unfold cnt
 have hl : i < a.toList.length := by simpa using h
 have hv : a.toList[i] = false := by
  have : a.getD i true = a[i] := by simp [Array.getD, h]
  rw [this] at hf
  simpa using hf
 have hpos : 0 < a.toList.countP (fun b => !b) := List.countP_pos_iff.2 ⟨false, by rw [← hv]; exact List.getElem_mem hl, rfl⟩
 rw [Array.toList_setIfInBounds, List.countP_set hl, hv]
 simp only [Bool.not_false, Bool.not_true, if_true, Bool.false_eq_true, if_false]
 omega
theorem par_any (hO : ∀ i, i < all.size → OpC all ps ts ds n i) (hT : ∀ t, t < ts.length → TokC all ps ts t) (obs : ∀ i o, all[i]? = some o → Ob P n all ps ts ds F T E0 w0 i o) :
  ∀ (f : Nat) (a : Array Bool) (ac : Act) (w : World) (E : Env), a.size = all.size → cnt a ≤ f → Is ac E n → PInv all ps ts F T E0 w0 l (fun k => a.getD k false) E w →
   wpAny P .any all (fun e a' w' => e = .normal ∧ ∃ E', Is a' E' n ∧ ∃ D : Nat → Bool, (∀ k, k < all.size → D k = true) ∧ PInv all ps ts F T E0 w0 l D E' w') f a ac w := by
 have hready : ∀ (a : Array Bool), a.size = all.size → ∀ i, i ∈ Region.ready .any all a → i < all.size ∧ a.getD i true = false ∧ ∀ j ∈ direct all i, a.getD j false = true := by
  intro a hs i hi
  unfold Region.ready at hi
  simp only [List.mem_filter, List.mem_range, Bool.and_eq_true, Bool.not_eq_true'] at hi
  obtain ⟨h1, h2, h3⟩ := hi
  refine ⟨h1, h2, fun j hj => ?_⟩
  unfold direct at hj
  have ho : all[i]? = some all[i] := by simp [h1]
  rw [ho] at h3 hj
  simp only [List.mem_map, List.mem_filter] at hj
  obtain ⟨e, ⟨he, hb⟩, rfl⟩ := hj
  simp only [Option.map_some, Option.getD_some, Array.all_eq_true_iff_forall_mem, Bool.or_eq_true, Bool.not_eq_true'] at h3
  rcases h3 e (by simpa using he) with h4 | h4
  ·rw [hb] at h4; cases h4
  ·exact h4
 have hnone : ∀ (a : Array Bool), a.size = all.size → Region.ready .any all a = [] → ∀ k, k < all.size → a.getD k false = true := by
  intro a hs hr k
  induction k using Nat.strongRecOn with
  | _ k ih =>
   intro hk
   cases hv : a.getD k false with
   | true => rfl
   | false =>
    exfalso
    have hm : k ∈ Region.ready .any all a := by
     unfold Region.ready
     simp only [List.mem_filter, List.mem_range, Bool.and_eq_true, Bool.not_eq_true']
     have ho : all[k]? = some all[k] := by simp [hk]
     refine ⟨hk, ?_, ?_⟩
     ·have hk' : k < a.size := by omega
      simp only [Array.getD, hk', dite_true] at hv ⊢
      exact hv
     ·rw [ho]
      simp only [Option.map_some, Option.getD_some, Array.all_eq_true_iff_forall_mem, Bool.or_eq_true, Bool.not_eq_true']
      intro e he
      cases hb : Region.binds .any e with
      | false => exact .inl rfl
      | true =>
       refine .inr ?_
       have hd : e.on ∈ direct all k := by
        unfold direct; rw [ho]
        simp only [List.mem_map, List.mem_filter]
        exact ⟨e, ⟨by simpa using he, hb⟩, rfl⟩
       have := (hO k hk).lt _ hd
       exact ih _ this (by omega)
    rw [hr] at hm; cases hm
 intro f
 induction f with
 | zero =>
  intro a ac w E hs hc hA hI
  have hall : Region.ready .any all a = [] := by
   refine List.eq_nil_iff_forall_not_mem.2 fun i hi => ?_
   obtain ⟨h1, h2, _⟩ := hready a hs i hi
   have := cnt_set (a := a) (i := i) (by omega) h2
   omega
  exact ⟨hall, rfl, E, hA, _, hnone a hs hall, hI⟩
 | succ f ih =>
  intro a ac w E hs hc hA hI
  refine ⟨fun hr => ⟨rfl, E, hA, _, hnone a hs hr, hI⟩, fun i hi => ?_⟩
  obtain ⟨h1, h2, h3⟩ := hready a hs i hi
  have ho : all[i]? = some all[i] := by simp [h1]
  have hi0 : a.getD i false = false := by
   have hk' : i < a.size := by omega
   simp only [Array.getD, hk', dite_true] at h2 ⊢
   exact h2
  have hS := par_step hO hT hI ho hi0 h3 (obs i _ ho)
  have go : ∀ (ac' : Act) (E' : Env) (w' : World), Is ac' E' n → PInv all ps ts F T E0 w0 l (ins (fun k => a.getD k false) i) E' w' →
    wpAny P .any all (fun e a' w' => e = .normal ∧ ∃ E', Is a' E' n ∧ ∃ D : Nat → Bool, (∀ k, k < all.size → D k = true) ∧ PInv all ps ts F T E0 w0 l D E' w') f (a.setIfInBounds i true) ac' w' := by
   intro ac' E' w' hA' hI'
   refine ih _ ac' w' E' (by simpa using hs) ?_ hA' ?_
   ·have := cnt_set (a := a) (i := i) (by omega) h2
    omega
   ·have e : (fun k => (a.setIfInBounds i true).getD k false) = ins (fun k => a.getD k false) i := funext fun k => setG (by omega)
    rw [e]; exact hI'
  have h4 := hS ac hA
  unfold wpOp
  rw [ho]
  simp only
  unfold wpList at h4
  split
  ·rename_i hw
   rw [if_pos hw] at h4
   rcases h4 with h4 | ⟨h4, a0, w1, E1, _, h5⟩
   ·refine .inl (wp_mono2 ?_ ?_ h4)
    ·rintro a' w' ⟨E', hA', hX⟩
     exact go a' E' w' hA' hX
    ·intro e a' w'
     refine ⟨fun c hc => ?_, ?_⟩
     ·subst hc; rintro ⟨E', hA', hX⟩; simp [X] at hX
     ·rintro ⟨E', hA', hX⟩; simp [X] at hX
   ·exact absurd h5 (by simp [X])
  ·rename_i hw
   rw [if_neg hw] at h4
   obtain ⟨E', hA', hX⟩ := h4
   exact go _ E' w hA' hX
end

section
variable {P : Program} {n : Nat} {R : Env → World → Prop} {st : List It} {E : Env} {w : World} {ops : List Oper} {w0 : World} {l : List Assn}
/-- A region that draws its order. -/
theorem x_par {id : Nat} (ps : List PB) (ts : List TB) (ds ti tf js : List Nat) (F : List (Env → Prop)) (T : List (Env → Assn)) (hm : P.follows .mixedOrders = true)
  (hB : (parB ops.toArray ps ts ds n && listB ti ((List.range ts.length).filter (present ts (fun _ => false))) && listB tf ((List.range ts.length).filter (present ts (fun _ => true))) && js.all (fun j => Nat.blt j ops.length)) = true)
  (h0 : St w0 w (ti.map (fun t => Ta ts T t E) ++ l))
  (obs : Obs P n ops.toArray ps ts ds F T E w0 0 ops)
  (fin : ∀ E' w', (∀ t, memB t ds = false → E' t = E t) → FA ps F E' js → St w0 w' (tf.map (fun t => Ta ts T t E') ++ l) → S P n R st E' w') :
  S P n R (.code (.region id ops.toArray true) :: st) E w := by
 intro a hA
 simp only [Bool.and_eq_true] at hB
 obtain ⟨⟨⟨hB, hti⟩, htf⟩, hjs⟩ := hB
 have hti := listB_spec hti
 have htf := listB_spec htf
 subst hti
 subst htf
 simp only [parB, Bool.and_eq_true, List.all_eq_true, List.mem_range] at hB
 simp only [List.all_eq_true, Nat.blt_eq] at hjs
 have hO : ∀ i, i < ops.toArray.size → OpC ops.toArray ps ts ds n i := fun i hi => opB_spec (hB.1 i hi)
 have hT : ∀ t, t < ts.length → TokC ops.toArray ps ts t := fun t ht => tokB_spec (hB.2 t ht)
 have hob : ∀ i o, ops.toArray[i]? = some o → Ob P n ops.toArray ps ts ds F T E w0 i o := fun i o ho => by
  have := Obs.get obs i o (by simpa using ho)
  rwa [Nat.zero_add] at this
 have hst : St w0 { w with drawn := w.drawn + 1 } (tk ts.length (fun t => if present ts (fun _ => false) t then Ta ts T t E else emp) ++ l) :=
  ((toks_flt (p := present ts (fun _ => false)) (a := fun t => Ta ts T t E) (List.range ts.length) []).2 h0).drawn _
 have hfalse : (fun k => (Array.replicate ops.toArray.size false).getD k false) = fun _ : Nat => false := by
  funext k
  simp only [Array.getD_eq_getD_getElem?, Array.getElem?_replicate]
  split <;> rfl
 have key := par_any (l := l) hO hT hob ops.toArray.size (Array.replicate ops.toArray.size false) a { w with drawn := w.drawn + 1 } E (by simp) (by unfold cnt; exact Nat.le_trans List.countP_le_length (by simp)) hA (by
  rw [hfalse]
  exact ⟨fun k hk => absurd hk (by simp), fun t _ => rfl, fun k _ hk => absurd hk (by simp), hst⟩)
 refine wp_mono (wp_region_any hm key) ?_
 rintro e a' w' ⟨rfl, E', hA', D, hD, hI⟩
 refine ⟨E', hA', fin E' w' (fun t ht => hI.same t fun j hj hd => by
  have hj' : j < ops.toArray.size := by unfold dstAt at hd; cases h1 : ops.toArray[j]? with | none => rw [h1] at hd; simp at hd | some o' => exact (Array.getElem?_eq_some_iff.1 h1).1
  have := ((hO j hj').dst t hd).2.1
  rw [memB_iff.2 this] at ht; cases ht) (FA_of fun j hj => hI.facts j (by simpa using hjs j hj) (hD j (by simpa using hjs j hj))) ?_⟩
 have hp : ∀ t, t < ts.length → present ts D t = present ts (fun _ => true) t := fun t ht => by
  rw [Bool.eq_iff_iff, present_iff, present_iff]
  constructor
  ·rintro ⟨h1, h2⟩
   refine ⟨fun q hq => rfl, fun c hc => ?_⟩
   have := h2 c hc
   rw [hD c ((hT t ht).cons c hc).2.1] at this; cases this
  ·rintro ⟨h1, h2⟩
   refine ⟨fun q hq => hD q ((hT t ht).prod q hq).2, fun c hc => ?_⟩
   have := h2 c hc; cases this
 have hfi : (List.range ts.length).filter (present ts D) = (List.range ts.length).filter (present ts (fun _ => true)) := List.filter_congr fun t ht => hp t (List.mem_range.1 ht)
 rw [← hfi]
 exact (toks_flt (p := present ts D) (a := fun t => Ta ts T t E') (List.range ts.length) []).1 hI.st
end

theorem x_fin {P : Program} {n : Nat} {R : Env → World → Prop} {E : Env} {w : World} (h : R E w) : S P n R [] E w := h
/-! ### A store of an aggregate -/
def over : List Value → Nat → List Value → List Value
 | vs, _, [] => vs
 | vs, o, v :: r => over (vs.set o v) (o + 1) r
section
variable {P : Program} {n : Nat} {R : Env → World → Prop} {st : List It} {E : Env} {w w0 : World} {all : Array Oper} {rest : List Oper} {l : List Assn}
theorem St.sets {b : Nat} {te : TypeId} : ∀ {news : List Value} {vs : List Value} {o : Nat} {w : World}, St w0 w (cells b te vs :: l) → St w0 (w.setCells b o news) (cells b te (over vs o news) :: l)
 | [], _, _, _, h => h
 | v :: r, vs, o, w, h => St.sets (news := r) (h.set o v)
def allOne : List Value → Bool
 | [] => true
 | v :: r => v.oneCell' && allOne r
theorem allOne_spec : ∀ {l : List Value}, allOne l = true → ∀ v ∈ l, v.oneCell' = true
 | [], _, v, hv => by cases hv
 | a :: r, h, v, hv => by
  simp only [allOne, Bool.and_eq_true] at h
  rcases List.mem_cons.1 hv with rfl | hv
  ·exact h.1
  ·exact allOne_spec h.2 v hv
theorem o_storeAgg {d : Option Nat} {ty : TypeId} {pos : String} {af : Array Edge} {t : TypeId} {x y : Operand} {b : Nat} {te : TypeId} {i : Nat} {news vs : List Value} (ht : aggB P t news.length = true) (hx : ev E x = .pointer (some ⟨b, i, none⟩)) (hy : ev E y = .agg ⟨news⟩) (hv : allOne news = true)
  (hi : i + news.length ≤ vs.length) (hS : St w0 w (cells b te vs :: l)) (h : ∀ w', St w0 w' (cells b te (over vs i news) :: l) → S P n R (.ops all rest :: st) (E.ins d undef) w') (hd : fits d n = true := by rfl) :
  S P n R (.ops all (⟨d, .store t x y, ty, pos, af, none⟩ :: rest) :: st) E w := by
 refine o_nil rfl hd (w' := w.setCells b i news) ?_ (h _ hS.sets)
 have hag : ∃ inf, P.info? t = some inf ∧ inf.size = news.length := by
  unfold aggB at ht
  cases hu : P.underlying t with
  | none => rw [hu] at ht; simp at ht
  | some dsc =>
   rw [hu] at ht
   cases hi : P.info? t with
   | none => rw [hi] at ht; cases dsc <;> simp at ht
   | some i => rw [hi] at ht; refine ⟨i, rfl, ?_⟩; cases dsc <;> simp_all
 obtain ⟨inf, hinf, h1⟩ := hag
 have hst := run_storeCells_cells (P := P) b i news 0 w (fun j hj => by
  have := hS.cell (i := i + j) (v := vs[i + j]'(by omega)) (by simp)
  simp [this]) (fun j hj => hS.unfrozen _) (allOne_spec hv)
 simp only [Nat.add_zero] at hst
 simp [execOp, hx, hy, Instr.storeAt, Instr.sureAddr, storeVar, Value.cells, sizeOf, typeInfo, hinf, h1, hst, pure, Sem.run]
end
/-! ### What a value holds, as a function of the value -/
def adOf : Value → Option Addr | .slice a _ _ => a | .pointer a => a | _ => none
def blkOf (v : Value) : Nat := match adOf v with | some a => a.block | none => 0
def capOf : Value → Nat | .slice _ _ c => c | _ => 0
end Go.Proofs.YtgmjhlpjlggpiaaDoor.X

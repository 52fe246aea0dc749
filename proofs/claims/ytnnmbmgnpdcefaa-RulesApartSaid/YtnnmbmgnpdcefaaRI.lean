/- Nets that are open, what is loose. Plain. -/
/- Too much wire at a gate. Plain. -/
/- rules.Faults: all faults, sorted, each once. Plain. -/
/- The faults of two layouts of which one has the nets of the other, or some of them. Plain. -/
/- RulesApart: without a net, exactly its own faults are gone. Plain. -/
import Derived.Test.YtnnmbmgnpdcefaaRE
namespace Go.Proofs.Ytnnmbmgnpdcefaa.X
open Go Go.RowKit
set_option linter.unusedVariables false
set_option linter.unusedSimpArgs false
set_option linter.unusedSectionVars false
theorem GrpOk.same {sh : List T_rules_shape} {g : T_rules_shape → List T_rules_Spot} {G : List Int} (h : GrpOk sh g G) {i j : Nat} (hi : i < sh.length) (hj : j < sh.length) {p q : T_rules_Spot} (hn : (gt sh (j : Int)).fnet = (gt sh (i : Int)).fnet) (hp : p ∈ g (gt sh (i : Int))) (hq : q ∈ g (gt sh (j : Int))) : Conn (Adj sh g (gt sh (i : Int)).fnet) p q ↔ gt G (j : Int) = gt G (i : Int) := by
  rw [h.conn hi hp]
  constructor
  · rintro ⟨c, hc, e, h1⟩
    rw [← e]
    exact (h.2 j c hj hc).2 (EC.one (hn.trans (h.net hc hi e).symm) hq h1)
  · intro e
    exact ⟨j, hj, e, hq⟩
theorem befS_rfl (a : T_rules_Spot) : befS a a = false := by rw [befS_false]; omega
theorem befS_eq {a b : T_rules_Spot} (h1 : befS a b = false) (h2 : befS b a = false) : a = b := by
  rw [befS_false] at h1 h2
  obtain ⟨a1, a2, a3⟩ := a
  obtain ⟨b1, b2, b3⟩ := b
  dsimp only at h1 h2
  have : a1 = b1 ∧ a2 = b2 ∧ a3 = b3 := by omega
  obtain ⟨rfl, rfl, rfl⟩ := this
  rfl
theorem gd_before (q : Bool) (a b : T_rules_Spot) : gd (!(!q)) (P_rules_Spot_before a b) = some (q && befS a b) := by
  rw [before_befS]; cases q <;> rfl
/-- The first spot of each group. -/
structure FsI (first : List (Int × T_rules_Spot)) (D : Int → T_rules_Spot → Prop) : Prop where
  key : ∀ k, mhas k first = true ↔ ∃ p, D k p
  mem : ∀ k, mhas k first = true → D k (mget k first ⟨0, 0, 0⟩)
  min : ∀ k p, D k p → befS p (mget k first ⟨0, 0, 0⟩) = false
theorem FsI.congr {first : List (Int × T_rules_Spot)} {D D' : Int → T_rules_Spot → Prop} (h : FsI first D) (e : ∀ k p, D k p ↔ D' k p) : FsI first D' := by
  have : D = D' := by funext k p; exact propext (e k p)
  rw [← this]; exact h
theorem FsI.step {first : List (Int × T_rules_Spot)} {D : Int → T_rules_Spot → Prop} (h : FsI first D) (x : Int) (p : T_rules_Spot) : FsI (if (!mhas x first || (mhas x first && befS p (mget x first ⟨0, 0, 0⟩))) = true then mput x p first else first) (fun k q => D k q ∨ k = x ∧ q = p) := by
  by_cases hc : (!mhas x first || (mhas x first && befS p (mget x first ⟨0, 0, 0⟩))) = true
  · rw [if_pos hc]
    refine ⟨fun k => ?_, fun k hk => ?_, fun k q hq => ?_⟩
    · rw [has_mput, h.key]
      constructor
      · rintro (rfl | ⟨q, hq⟩)
        · exact ⟨p, .inr ⟨rfl, rfl⟩⟩
        · exact ⟨q, .inl hq⟩
      · rintro ⟨q, hq | ⟨rfl, _⟩⟩
        · exact .inr ⟨q, hq⟩
        · exact .inl rfl
    · rw [mget_mput]
      by_cases e : k = x
      · rw [if_pos e]; exact .inr ⟨e, rfl⟩
      · rw [if_neg e]
        rw [has_mput] at hk
        exact .inl (h.mem k (hk.resolve_left e))
    · rw [mget_mput]
      by_cases e : k = x
      · rw [if_pos e]
        rcases hq with hq | ⟨_, rfl⟩
        · subst e
          have hm := (h.key k).2 ⟨q, hq⟩
          rw [hm] at hc
          simp only [Bool.not_true, Bool.true_and, Bool.false_or] at hc
          have := h.min k q hq
          rw [befS_false] at this ⊢
          rw [befS_iff] at hc
          omega
        · exact befS_rfl _
      · rw [if_neg e]
        rcases hq with hq | ⟨rfl, _⟩
        · exact h.min k q hq
        · exact absurd rfl e
  · rw [if_neg hc]
    have hy : mhas x first = true ∧ befS p (mget x first ⟨0, 0, 0⟩) = false := by
      cases hm : mhas x first <;> rw [hm] at hc <;> simp at hc
      exact ⟨rfl, hc⟩
    refine ⟨fun k => ?_, fun k hk => .inl (h.mem k hk), fun k q hq => ?_⟩
    · rw [h.key]
      constructor
      · rintro ⟨q, hq⟩; exact ⟨q, .inl hq⟩
      · rintro ⟨q, hq | ⟨rfl, _⟩⟩
        · exact ⟨q, hq⟩
        · exact (h.key _).1 hy.1
    · rcases hq with hq | ⟨rfl, rfl⟩
      · exact h.min k q hq
      · exact hy.2
theorem open17_ok {s : T_rules_shape} (hs : s.fspots.length ≤ 1000) (x : Int) {first : List (Int × T_rules_Spot)} {D : Int → T_rules_Spot → Prop} (h : FsI first D) :
    Ok (lp (P_rules_open_L17 s x) fuel (first, 0)) (fun r => FsI r (fun k q => D k q ∨ k = x ∧ q ∈ s.fspots)) := by
  refine ok_lp (fun r => (0 ≤ r.2 ∧ r.2 ≤ s.fspots.length) ∧ FsI r.1 (fun k q => D k q ∨ k = x ∧ q ∈ s.fspots.take r.2.toNat)) (fun r => ((s.fspots.length : Int) - r.2).toNat) ⟨⟨by simp, by simp⟩, h.congr fun k q => by simp⟩ (by simp only; omega) ?_
  rintro ⟨f, y⟩ ⟨⟨y0, y1⟩, hI⟩
  dsimp only at y0 y1 hI
  unfold P_rules_open_L17
  dsimp only
  refine ok_ite (fun hlt => ?_) (fun hge => ok_some ?_)
  · have hy : inb y s.fspots.length := ⟨y0, hlt⟩
    refine ok_ck hy (ok_lv (ok_lv (ok_lv ?_)))
    rw [gd_before]
    refine ok_bd_some (ok_lv ?_)
    have hst := hI.step x (gt s.fspots y)
    refine ok_bd (R := fun r => FsI r (fun k q => (D k q ∨ k = x ∧ q ∈ s.fspots.take y.toNat) ∨ k = x ∧ q = gt s.fspots y)) (ok_ite (fun hc => ok_lv (ok_some ?_)) (fun hc => ok_some ?_)) fun r hr => ok_ar (by unfold I64; omega) (ok_some ⟨⟨⟨by dsimp only; omega, by dsimp only; omega⟩, hr.congr fun k q => ?_⟩, by dsimp only; omega⟩)
    · rw [if_pos hc] at hst; exact hst
    · rw [if_neg hc] at hst; exact hst
    · dsimp only
      rw [mem_take hy]
      constructor
      · rintro ((h | ⟨h, h1⟩) | ⟨h, h1⟩)
        · exact .inl h
        · exact .inr ⟨h, .inl h1⟩
        · exact .inr ⟨h, .inr h1⟩
      · rintro (h | ⟨h, h1 | h1⟩)
        · exact .inl (.inl h)
        · exact .inl (.inr ⟨h, h1⟩)
        · exact .inr ⟨h, h1⟩
  · refine hI.congr fun k q => ?_
    rw [List.take_of_length_le (by omega)]
/-! pins among the shapes -/
def bas (l : T_rules_Layout) : Nat := l.Wires.length + l.Vias.length
section
variable {l : T_rules_Layout}
theorem shps_len : (shps l).length = bas l + l.Pins.length := by simp [shps, shPs, bas]; omega
theorem gt_of {α : Type} [Inhabited α] {xs : List α} {i : Nat} {x : α} (h : xs[i]? = some x) : gt xs (i : Int) = x := by
  unfold gt; simp [List.getD_eq_getElem?_getD, h]
theorem sh_pin {k : Nat} (hk : k < l.Pins.length) : gt (shps l) ((bas l + k : Nat) : Int) = shP k (gt l.Pins (k : Int)) := by
  refine gt_of ?_
  unfold shps shPs bas
  rw [List.getElem?_append_right (by simp)]
  simp [hk]
theorem sh_wire {i : Nat} (hi : i < l.Wires.length) : gt (shps l) (i : Int) = shW (gt l.Wires (i : Int)) := by
  refine gt_of ?_
  unfold shps shPs
  rw [List.getElem?_append_left (by simp; omega), List.getElem?_append_left (by simpa using hi), map_ex hi]
theorem sh_via {k : Nat} (hk : k < l.Vias.length) : gt (shps l) ((l.Wires.length + k : Nat) : Int) = shV (gt l.Vias (k : Int)) := by
  refine gt_of ?_
  unfold shps shPs
  rw [List.getElem?_append_left (by simp; omega), List.getElem?_append_right (by simp), List.length_map, Nat.add_sub_cancel_left, map_ex hk]
theorem sh_three {i : Nat} (hi : i < (shps l).length) : (∃ w ∈ l.Wires, gt (shps l) (i : Int) = shW w) ∨ (∃ v ∈ l.Vias, gt (shps l) (i : Int) = shV v) ∨ ∃ k : Nat, k < l.Pins.length ∧ i = bas l + k := by
  rw [shps_len] at hi
  by_cases h1 : i < l.Wires.length
  · exact .inl ⟨_, gt_mem ⟨by omega, by omega⟩, sh_wire h1⟩
  · by_cases h2 : i < bas l
    · right; left
      unfold bas at h2
      have h3 := sh_via (l := l) (k := i - l.Wires.length) (by omega)
      rw [show l.Wires.length + (i - l.Wires.length) = i by omega] at h3
      exact ⟨_, gt_mem (xs := l.Vias) (i := ((i - l.Wires.length : Nat) : Int)) ⟨by omega, by omega⟩, h3⟩
    · exact .inr (.inr ⟨i - bas l, by omega, by omega⟩)
theorem pin_of {i : Nat} (hi : i < (shps l).length) (h : 0 ≤ (gt (shps l) (i : Int)).fpin) : ∃ k : Nat, k < l.Pins.length ∧ i = bas l + k := by
  rcases sh_three hi with ⟨w, _, e⟩ | ⟨v, _, e⟩ | h'
  · rw [e] at h; simp [shW] at h
  · rw [e] at h; simp [shV] at h
  · exact h'
theorem pin_pin {k : Nat} (hk : k < l.Pins.length) : 0 ≤ (gt (shps l) ((bas l + k : Nat) : Int)).fpin := by
  rw [sh_pin hk]; simp [shP]
end
/-- The first pin of a net. -/
def FirstP (l : T_rules_Layout) (n : Int) (i : Nat) : Prop := 0 ≤ (gt (shps l) (i : Int)).fpin ∧ (gt (shps l) (i : Int)).fnet = n ∧ ∀ j : Nat, j < i → 0 ≤ (gt (shps l) (j : Int)).fpin → (gt (shps l) (j : Int)).fnet ≠ n
def O5 (l : T_rules_Layout) (G : List Int) (i : Nat) (f : T_rules_Fault) : Prop := 0 ≤ (gt (shps l) (i : Int)).fpin ∧ ∃ j : Nat, j ≤ i ∧ FirstP l (gt (shps l) (i : Int)).fnet j ∧ gt G (j : Int) ≠ gt G (i : Int) ∧ f = ⟨5, (gt (shps l) (i : Int)).fnet, 0, gt (gt (shps l) (i : Int)).fspots 0⟩
section
variable {l : T_rules_Layout}
theorem FirstP.find {n : Int} {k : Nat} (hk : k < l.Pins.length) (h : FirstP l n (bas l + k)) : l.Pins.find? (fun q => decide (q.Net = n)) = some (gt l.Pins (k : Int)) := by
  obtain ⟨h1, h2, h3⟩ := h
  rw [sh_pin hk] at h2
  rw [List.find?_eq_some_iff_getElem]
  refine ⟨by simpa [shP] using h2, k, hk, (gt_nth hk).symm, fun j hj => ?_⟩
  have := h3 (bas l + j) (by omega) (pin_pin (by omega))
  rw [sh_pin (by omega)] at this
  rw [← gt_nth (by omega)]
  simpa [shP] using this
theorem find_first {n : Int} {q : T_rules_Pin} (h : l.Pins.find? (fun q => decide (q.Net = n)) = some q) : ∃ k : Nat, k < l.Pins.length ∧ gt l.Pins (k : Int) = q ∧ FirstP l n (bas l + k) := by
  rw [List.find?_eq_some_iff_getElem] at h
  obtain ⟨h1, k, hk, e, h2⟩ := h
  refine ⟨k, hk, by rw [gt_nth hk, e], pin_pin hk, ?_, fun j hj hp => ?_⟩
  · rw [sh_pin hk, gt_nth hk, e]; simpa [shP] using h1
  · obtain ⟨k', hk', rfl⟩ := pin_of (by rw [shps_len]; omega) hp
    have := h2 k' (by omega)
    rw [sh_pin hk', gt_nth hk']
    simpa [shP] using this
theorem pin_spot {k : Nat} (hk : k < l.Pins.length) : pspot (gt l.Pins (k : Int)) ∈ allS (gt (shps l) ((bas l + k : Nat) : Int)) := by
  rw [sh_pin hk]; simp [allS, shP, pspot]
theorem pin_net {k : Nat} (hk : k < l.Pins.length) : (gt (shps l) ((bas l + k : Nat) : Int)).fnet = (gt l.Pins (k : Int)).Net := by rw [sh_pin hk]; rfl
theorem o5_iff {G : List Int} (hG : GrpOk (shps l) allS G) (f : T_rules_Fault) : (∃ i : Nat, i < (shps l).length ∧ O5 l G i f) ↔ F5 l f := by
  constructor
  · rintro ⟨i, hi, hp, j, hj, hf, hne, rfl⟩
    obtain ⟨k, hk, rfl⟩ := pin_of hi hp
    obtain ⟨m, hm, rfl⟩ := pin_of (by omega) hf.1
    have hfind := hf.find hm
    rw [pin_net hk] at hfind
    refine ⟨gt l.Pins (k : Int), gt_mem ⟨by omega, by omega⟩, _, hfind, fun hc => hne ?_, ?_⟩
    · have hn := hf.2.1
      rw [pin_net hm, pin_net hk] at hn
      have h1 : (gt (shps l) ((bas l + k : Nat) : Int)).fnet = (gt (shps l) ((bas l + m : Nat) : Int)).fnet := by rw [pin_net hk, pin_net hm, hn]
      refine ((hG.same (by omega) hi h1 (pin_spot hm) (pin_spot hk)).1 ?_).symm
      rw [pin_net hm, hn]; exact hc
    · rw [sh_pin hk]; rfl
  · rintro ⟨p, hp, q, hq, hc, rfl⟩
    obtain ⟨k, hk, rfl⟩ := List.getElem_of_mem hp
    obtain ⟨m, hm, e, hf⟩ := find_first hq
    subst e
    rw [← gt_nth hk] at hc hf ⊢
    have hi : bas l + k < (shps l).length := by rw [shps_len]; omega
    have hmi : bas l + m < (shps l).length := by rw [shps_len]; omega
    have hn := hf.2.1
    have hle : m ≤ k := by
      rcases Nat.lt_or_ge k m with h | h
      · exact absurd (pin_net hk) (hf.2.2 (bas l + k) (by omega) (pin_pin hk))
      · exact h
    refine ⟨bas l + k, hi, pin_pin hk, bas l + m, by omega, ?_, fun e => hc ?_, ?_⟩
    · rw [pin_net hk]; exact hf
    · have h1 : (gt (shps l) ((bas l + k : Nat) : Int)).fnet = (gt (shps l) ((bas l + m : Nat) : Int)).fnet := by rw [pin_net hk, hn]
      have := (hG.same hmi hi h1 (pin_spot hm) (pin_spot hk)).2 e.symm
      rw [hn] at this; exact this
    · rw [sh_pin hk]; rfl
/-- The groups with pins, the first pins' groups. -/
structure OpI (l : T_rules_Layout) (G : List Int) (y : Int) (home : List (Int × Int)) (pinned : List (Int × Bool)) : Prop where
  no : ∀ n, mhas n home = false → ∀ i : Nat, (i : Int) < y → 0 ≤ (gt (shps l) (i : Int)).fpin → (gt (shps l) (i : Int)).fnet ≠ n
  yes : ∀ n, mhas n home = true → ∃ i : Nat, (i : Int) < y ∧ FirstP l n i ∧ mget n home 0 = gt G (i : Int)
  pin : ∀ k, mget k pinned false = true ↔ ∃ i : Nat, (i : Int) < y ∧ 0 ≤ (gt (shps l) (i : Int)).fpin ∧ gt G (i : Int) = k
end
section
variable {l : T_rules_Layout} (hl : LayR l) {F : T_rules_Fault → Prop} (hF : ∀ f, F f → FS l f)
include hl hF
theorem open6_ok {G : List Int} (hG : GrpOk (shps l) allS G) {seen : List (T_rules_Fault × Bool)} (hB : Bag F seen) :
    Ok (lp (P_rules_open_L6 (shps l) G) fuel ([], [], [], 0, seen, false)) (fun r => (∀ k, mget k r.1 false = true ↔ ∃ i : Nat, i < (shps l).length ∧ 0 ≤ (gt (shps l) (i : Int)).fpin ∧ gt G (i : Int) = k) ∧ FsI r.2.1 (fun k p => ∃ i : Nat, i < (shps l).length ∧ p ∈ allS (gt (shps l) (i : Int)) ∧ gt G (i : Int) = k) ∧ r.2.2.2 = false ∧ Bag (fun f => F f ∨ F5 l f) r.2.2.1) := by
  have hsl := hl.shLen
  have hGl := hG.1
  have hiff := o5_iff hG
  refine ok_lp (fun s => (0 ≤ s.2.2.2.1 ∧ s.2.2.2.1 ≤ (shps l).length) ∧ OpI l G s.2.2.2.1 s.1 s.2.1 ∧ FsI s.2.2.1 (fun k p => ∃ i : Nat, (i : Int) < s.2.2.2.1 ∧ p ∈ allS (gt (shps l) (i : Int)) ∧ gt G (i : Int) = k) ∧ s.2.2.2.2.2 = false ∧ Bag (fun f => F f ∨ ∃ i : Nat, (i : Int) < s.2.2.2.1 ∧ O5 l G i f) s.2.2.2.2.1) (fun s => (((shps l).length : Int) - s.2.2.2.1).toNat) ⟨⟨by simp, by simp⟩, ?_, ?_, rfl, hB.congr fun f => ?_⟩ (by simp only; omega) ?_
  · refine ⟨fun n _ i h => ?_, fun n h => ?_, fun k => ?_⟩
    · dsimp only at h; omega
    · simp [mhas, mfind] at h
    · dsimp only
      constructor
      · intro h; simp [mget, mfind] at h
      · rintro ⟨i, h, _⟩; omega
  · dsimp only
    refine ⟨fun k => ?_, fun k h => ?_, fun k p h => ?_⟩
    · constructor
      · intro h; simp [mhas, mfind] at h
      · rintro ⟨p, i, h, _⟩; omega
    · simp [mhas, mfind] at h
    · obtain ⟨i, h, _⟩ := h; omega
  · constructor
    · exact .inl
    · rintro (h | ⟨i, h, _⟩)
      · exact h
      · dsimp only at h; omega
  rintro ⟨home, pinned, first, y, bs, b⟩ ⟨⟨y0, y1⟩, hO, hf, rfl, hb⟩
  dsimp only at y0 y1 hO hf hb
  obtain ⟨k, rfl⟩ := Int.eq_ofNat_of_zero_le y0
  unfold P_rules_open_L6
  dsimp only
  refine ok_ite (fun hlt => ?_) (fun hge => ok_some ⟨fun q => ?_, ?_, rfl, hb.congr fun f => ?_⟩)
  · have hk : k < (shps l).length := by omega
    have hsp := hl.spots (sh_mem hk)
    have tofs : ∀ i : Nat, i < (shps l).length → ∀ f, O5 l G i f → FS l f := fun i hi f h => .inr (.inr (.inr (.inr (.inl ((hiff f).1 ⟨i, hi, h⟩)))))
    have lt1 : ∀ i : Nat, (i : Int) < (k : Int) + 1 ↔ (i : Int) < k ∨ i = k := fun i => by omega
    refine ok_ck ⟨y0, hlt⟩ (ok_lv (ok_ck ⟨y0, by omega⟩ (ok_lv (ok_bd (R := fun s => OpI l G (k + 1) s.1 s.2.1 ∧ s.2.2.2 = false ∧ Bag (fun f => F f ∨ ∃ i : Nat, (i : Int) < (k : Int) + 1 ∧ O5 l G i f) s.2.2.1) ?_ ?_))))
    · refine ok_ite (fun hp => ?_) (fun hp => ok_some ⟨⟨fun n hn i hi h0 => ?_, fun n hn => ?_, fun q => ?_⟩, rfl, hb.congr fun f => ?_⟩)
      · have hpin : ∀ q, mget q (mput (gt G (k : Int)) true pinned) false = true ↔ ∃ i : Nat, (i : Int) < (k : Int) + 1 ∧ 0 ≤ (gt (shps l) (i : Int)).fpin ∧ gt G (i : Int) = q := fun q => by
          rw [mget_mput]
          by_cases e : q = gt G (k : Int)
          · rw [if_pos e]; exact ⟨fun _ => ⟨k, by omega, hp, e.symm⟩, fun _ => rfl⟩
          · rw [if_neg e, hO.pin]
            constructor
            · rintro ⟨i, a, b, c⟩; exact ⟨i, by omega, b, c⟩
            · rintro ⟨i, a, b, c⟩
              rcases (lt1 i).1 a with a | rfl
              · exact ⟨i, a, b, c⟩
              · exact absurd c.symm e
        refine ok_lv (ok_lv (ok_lv (ok_bd (R := fun s => OpI l G (k + 1) s.1 (mput (gt G (k : Int)) true pinned) ∧ s.2.2 = false ∧ Bag (fun f => F f ∨ ∃ i : Nat, (i : Int) < (k : Int) + 1 ∧ O5 l G i f) s.2.1) (ok_ite (fun hc => ok_lv (ok_some ?_)) (fun hc => ?_)) fun s hs => ok_some hs)))
        · have hno : mhas (gt (shps l) (k : Int)).fnet home = false := by simpa using hc
          have hfst : FirstP l (gt (shps l) (k : Int)).fnet k := ⟨hp, rfl, fun j hj h => hO.no _ hno j (by omega) h⟩
          refine ⟨⟨fun n hn i hi h0 => ?_, fun n hn => ?_, hpin⟩, rfl, hb.congr fun f => ?_⟩
          · dsimp only at hn
            rw [mhas_mput] at hn
            split at hn
            · cases hn
            · rename_i q
              rcases (lt1 i).1 hi with a | rfl
              · exact hO.no n hn i a h0
              · exact fun e => q e.symm
          · dsimp only at hn ⊢
            rw [mget_mput]
            by_cases e : n = (gt (shps l) (k : Int)).fnet
            · rw [if_pos e]; exact ⟨k, by omega, e ▸ hfst, rfl⟩
            · rw [if_neg e]
              obtain ⟨i, a, b, c⟩ := hO.yes n ((has_mput.1 hn).resolve_left e)
              exact ⟨i, by omega, b, c⟩
          · constructor
            · rintro (h | ⟨i, a, h⟩)
              · exact .inl h
              · exact .inr ⟨i, by omega, h⟩
            · rintro (h | ⟨i, a, h⟩)
              · exact .inl h
              · rcases (lt1 i).1 a with a | rfl
                · exact .inr ⟨i, a, h⟩
                · obtain ⟨_, j, hj, hfj, hne, _⟩ := h
                  rcases Nat.lt_or_ge j i with q | q
                  · exact absurd hfj.2.1 (hO.no _ hno j (by omega) hfj.1)
                  · have : j = i := by omega
                    subst this; exact absurd rfl hne
        · have hyes : mhas (gt (shps l) (k : Int)).fnet home = true := by simpa using hc
          obtain ⟨j, hj, hfj, ej⟩ := hO.yes _ hyes
          have hO' : OpI l G (k + 1) home (mput (gt G (k : Int)) true pinned) := by
            refine ⟨fun n hn i hi h0 => ?_, fun n hn => ?_, hpin⟩
            · rcases (lt1 i).1 hi with a | rfl
              · exact hO.no n hn i a h0
              · rintro rfl; rw [hyes] at hn; cases hn
            · obtain ⟨i, a, b, c⟩ := hO.yes n hn
              exact ⟨i, by omega, b, c⟩
          have honly : ∀ j', j' ≤ k → FirstP l (gt (shps l) (k : Int)).fnet j' → j' = j := fun j' _ h' => by
            rcases Nat.lt_trichotomy j' j with q | q | q
            · exact absurd h'.2.1 (hfj.2.2 j' q h'.1)
            · exact q
            · exact absurd hfj.2.1 (h'.2.2 j q hfj.1)
          refine ok_bd (R := fun s => s.2 = false ∧ Bag (fun f => F f ∨ ∃ i : Nat, (i : Int) < (k : Int) + 1 ∧ O5 l G i f) s.1) (ok_ite (fun hne => ?_) (fun heq => ok_some ⟨rfl, hb.congr fun f => ?_⟩)) fun s hs => ok_some ⟨hO', hs⟩
          · rw [ej] at hne
            have h5 : O5 l G k ⟨5, (gt (shps l) (k : Int)).fnet, 0, gt (gt (shps l) (k : Int)).fspots 0⟩ := ⟨hp, j, by omega, hfj, hne, rfl⟩
            have hsome := hl.some (sh_mem hk)
            have hpos := List.length_pos_iff.2 hsome
            refine ok_ck ⟨by omega, by omega⟩ (ok_lv (add_bd hl hb (fun f h => ?_) (tofs k hk _ h5) fun s hs => ok_some ⟨rfl, hs.congr fun f => ?_⟩))
            · rcases h with h | ⟨i, a, h⟩
              · exact hF f h
              · exact tofs i (by omega) f h
            · constructor
              · rintro ((h | ⟨i, a, h⟩) | rfl)
                · exact .inl h
                · exact .inr ⟨i, by omega, h⟩
                · exact .inr ⟨k, by omega, h5⟩
              · rintro (h | ⟨i, a, h⟩)
                · exact .inl (.inl h)
                · rcases (lt1 i).1 a with a | rfl
                  · exact .inl (.inr ⟨i, a, h⟩)
                  · obtain ⟨_, _, _, _, _, e⟩ := h; exact .inr e
          · have heq' : mget (gt (shps l) (k : Int)).fnet home 0 = gt G (k : Int) := Decidable.of_not_not heq
            constructor
            · rintro (h | ⟨i, a, h⟩)
              · exact .inl h
              · exact .inr ⟨i, by omega, h⟩
            · rintro (h | ⟨i, a, h⟩)
              · exact .inl h
              · rcases (lt1 i).1 a with a | rfl
                · exact .inr ⟨i, a, h⟩
                · obtain ⟨_, j', hj', hfj', hne, _⟩ := h
                  rw [honly j' hj' hfj', ← ej] at hne
                  exact absurd heq' hne
      · rcases (lt1 i).1 hi with a | rfl
        · exact hO.no n hn i a h0
        · exact absurd h0 hp
      · obtain ⟨i, a, b, c⟩ := hO.yes n hn
        exact ⟨i, by omega, b, c⟩
      · dsimp only
        rw [hO.pin]
        constructor
        · rintro ⟨i, a, b, c⟩; exact ⟨i, by omega, b, c⟩
        · rintro ⟨i, a, b, c⟩
          rcases (lt1 i).1 a with a | rfl
          · exact ⟨i, a, b, c⟩
          · exact absurd b hp
      · constructor
        · rintro (h | ⟨i, a, h⟩)
          · exact .inl h
          · exact .inr ⟨i, by omega, h⟩
        · rintro (h | ⟨i, a, h⟩)
          · exact .inl h
          · rcases (lt1 i).1 a with a | rfl
            · exact .inr ⟨i, a, h⟩
            · exact absurd h.1 hp
    · rintro ⟨hm, pn, s, b⟩ ⟨h1, rfl, h2⟩
      dsimp only at h1 h2
      refine ok_bd (open17_ok (by omega) (gt G (k : Int)) hf) fun r hr => ok_ar (by unfold I64; omega) (ok_some ⟨⟨⟨by dsimp only; omega, by dsimp only; omega⟩, h1, hr.congr fun q p => ?_, rfl, h2⟩, by dsimp only; omega⟩)
      dsimp only
      constructor
      · rintro (⟨i, a, b, c⟩ | ⟨a, b⟩)
        · exact ⟨i, by omega, b, c⟩
        · exact ⟨k, by omega, b, a.symm⟩
      · rintro ⟨i, a, b, c⟩
        rcases (lt1 i).1 a with a | rfl
        · exact .inl ⟨i, a, b, c⟩
        · exact .inr ⟨c.symm, b⟩
  · dsimp only
    rw [hO.pin]
    exact ⟨fun ⟨i, a, b⟩ => ⟨i, by omega, b⟩, fun ⟨i, a, b⟩ => ⟨i, by omega, b⟩⟩
  · exact hf.congr fun q p => ⟨fun ⟨i, a, b⟩ => ⟨i, by omega, b⟩, fun ⟨i, a, b⟩ => ⟨i, by omega, b⟩⟩
  · rw [← hiff]
    exact ⟨fun h => h.elim .inl fun ⟨i, a, b⟩ => .inr ⟨i, by omega, b⟩, fun h => h.elim .inl fun ⟨i, a, b⟩ => .inr ⟨i, by omega, b⟩⟩
def O6 (l : T_rules_Layout) (G : List Int) (first : List (Int × T_rules_Spot)) (i : Nat) (f : T_rules_Fault) : Prop := (¬ ∃ j : Nat, j < (shps l).length ∧ 0 ≤ (gt (shps l) (j : Int)).fpin ∧ gt G (j : Int) = gt G (i : Int)) ∧ f = ⟨6, (gt (shps l) (i : Int)).fnet, 0, mget (gt G (i : Int)) first ⟨0, 0, 0⟩⟩
omit hF in
theorem o6_iff {G : List Int} (hG : GrpOk (shps l) allS G) {first : List (Int × T_rules_Spot)} (hf : FsI first (fun k p => ∃ i : Nat, i < (shps l).length ∧ p ∈ allS (gt (shps l) (i : Int)) ∧ gt G (i : Int) = k)) (f : T_rules_Fault) : (∃ i : Nat, i < (shps l).length ∧ O6 l G first i f) ↔ F6 l f := by
  constructor
  · rintro ⟨i, hi, hno, rfl⟩
    obtain ⟨p, hp⟩ := List.exists_mem_of_ne_nil _ (hl.some (sh_mem hi))
    obtain ⟨c, hc, hm, e⟩ := hf.mem (gt G (i : Int)) ((hf.key _).2 ⟨p, i, hi, hp, rfl⟩)
    have hn := hG.net hc hi e
    refine ⟨_, _, ⟨_, sh_mem hc, hn, hm⟩, fun q hq => ?_, fun p hp hpn hq => hno ?_, rfl⟩
    · rw [← hn] at hq
      obtain ⟨d, hd, e2, h2⟩ := (hG.conn hc hm).1 hq
      exact hf.min _ q ⟨d, hd, h2, e2.trans e⟩
    · obtain ⟨k, hk, rfl⟩ := List.getElem_of_mem hp
      rw [← gt_nth hk] at hpn hq
      have hki : bas l + k < (shps l).length := by rw [shps_len]; omega
      rw [← hn] at hq
      have h1 : (gt (shps l) ((bas l + k : Nat) : Int)).fnet = (gt (shps l) (c : Int)).fnet := by rw [pin_net hk, hpn, hn]
      exact ⟨bas l + k, hki, pin_pin hk, ((hG.same hc hki h1 hm (pin_spot hk)).1 hq).trans e⟩
  · rintro ⟨n, m, ⟨s, hs, rfl, hm⟩, hq, hp, rfl⟩
    obtain ⟨c, hc, rfl⟩ := sh_idx hs
    refine ⟨c, hc, fun ⟨j, hj, h0, e⟩ => ?_, ?_⟩
    · obtain ⟨k, hk, rfl⟩ := pin_of hj h0
      have hn := hG.net hj hc e
      rw [pin_net hk] at hn
      refine hp _ (gt_mem ⟨by omega, by omega⟩) hn ?_
      exact (hG.same hc hj (by rw [pin_net hk, hn]) hm (pin_spot hk)).2 e
    · obtain ⟨d, hd, hm2, e⟩ := hf.mem (gt G (c : Int)) ((hf.key _).2 ⟨m, c, hc, hm, rfl⟩)
      have h1 := hf.min (gt G (c : Int)) m ⟨c, hc, hm, rfl⟩
      have h2 := hq _ ((hG.conn hc hm).2 ⟨d, hd, e, hm2⟩)
      rw [befS_eq h1 h2]
theorem open_ok {seen : List (T_rules_Fault × Bool)} (hB : Bag F seen) : Ok (P_rules_open seen false l (shps l)) (fun r => r.2 = false ∧ Bag (fun f => (F f ∨ F5 l f) ∨ F6 l f) r.1) := by
  have hsl := hl.shLen
  unfold P_rules_open
  refine ok_bd (groups_2_ok (by omega) (fun s hs => by have := hl.spots hs; omega)) fun G hG => ok_bd (open6_ok hl hF hG hB) ?_
  rintro ⟨pinned, first, bs, b⟩ ⟨hp, hf, rfl, hb⟩
  dsimp only at hp hf hb
  have hGl := hG.1
  have hiff := o6_iff hl hG hf
  have tofs : ∀ i : Nat, i < (shps l).length → ∀ f, O6 l G first i f → FS l f := fun i hi f h => .inr (.inr (.inr (.inr (.inr (.inl ((hiff f).1 ⟨i, hi, h⟩))))))
  refine ok_bd (R := fun r => r.2 = false ∧ Bag (fun f => (F f ∨ F5 l f) ∨ F6 l f) r.1) ?_ fun r hr => ok_some hr
  refine ok_lp (fun s => (0 ≤ s.1 ∧ s.1 ≤ (shps l).length) ∧ s.2.2 = false ∧ Bag (fun f => (F f ∨ F5 l f) ∨ ∃ i : Nat, (i : Int) < s.1 ∧ O6 l G first i f) s.2.1) (fun s => (((shps l).length : Int) - s.1).toNat) ⟨⟨by simp, by simp⟩, rfl, hb.congr fun f => ?_⟩ (by simp only; omega) ?_
  · constructor
    · exact .inl
    · rintro (h | ⟨i, h, _⟩)
      · exact h
      · dsimp only at h; omega
  rintro ⟨y, bs', b⟩ ⟨⟨y0, y1⟩, rfl, hb'⟩
  dsimp only at y0 y1 hb'
  obtain ⟨k, rfl⟩ := Int.eq_ofNat_of_zero_le y0
  unfold P_rules_open_L25
  dsimp only
  have lt1 : ∀ i : Nat, (i : Int) < (k : Int) + 1 ↔ (i : Int) < k ∨ i = k := fun i => by omega
  refine ok_ite (fun hlt => ?_) (fun hge => ok_some ⟨rfl, hb'.congr fun f => ?_⟩)
  · have hk : k < (shps l).length := by omega
    refine ok_ck ⟨y0, hlt⟩ (ok_lv (ok_ck ⟨y0, by omega⟩ (ok_lv (ok_lv (ok_bd (R := fun r => r.2 = false ∧ Bag (fun f => (F f ∨ F5 l f) ∨ ∃ i : Nat, (i : Int) < (k : Int) + 1 ∧ O6 l G first i f) r.1) (ok_ite (fun hc => ?_) (fun hc => ok_some ⟨rfl, hb'.congr fun f => ?_⟩)) ?_)))))
    · have h6 : O6 l G first k ⟨6, (gt (shps l) (k : Int)).fnet, 0, mget (gt G (k : Int)) first ⟨0, 0, 0⟩⟩ := ⟨fun h => by
        rw [← hp] at h; rw [h] at hc; simp at hc, rfl⟩
      refine ok_lv (add_bd hl hb' (fun f h => ?_) (tofs k hk _ h6) fun s hs => ok_some ⟨rfl, hs.congr fun f => ?_⟩)
      · rcases h with (h | h) | ⟨i, a, h⟩
        · exact hF f h
        · exact .inr (.inr (.inr (.inr (.inl h))))
        · exact tofs i (by omega) f h
      · constructor
        · rintro ((h | ⟨i, a, h⟩) | rfl)
          · exact .inl h
          · exact .inr ⟨i, by omega, h⟩
          · exact .inr ⟨k, by omega, h6⟩
        · rintro (h | ⟨i, a, h⟩)
          · exact .inl (.inl h)
          · rcases (lt1 i).1 a with a | rfl
            · exact .inl (.inr ⟨i, a, h⟩)
            · exact .inr h.2
    · have hy : mget (gt G (k : Int)) pinned false = true := by simpa using hc
      constructor
      · rintro (h | ⟨i, a, h⟩)
        · exact .inl h
        · exact .inr ⟨i, by omega, h⟩
      · rintro (h | ⟨i, a, h⟩)
        · exact .inl h
        · rcases (lt1 i).1 a with a | rfl
          · exact .inr ⟨i, a, h⟩
          · exact absurd ((hp _).1 hy) h.1
    · rintro ⟨s, b⟩ ⟨rfl, hs⟩
      exact ok_ar (by unfold I64; omega) (ok_some ⟨⟨⟨by dsimp only; omega, by dsimp only; omega⟩, rfl, hs⟩, by dsimp only; omega⟩)
  · rw [← hiff]
    exact ⟨fun h => h.elim .inl fun ⟨i, a, b⟩ => .inr ⟨i, by omega, b⟩, fun h => h.elim .inl fun ⟨i, a, b⟩ => .inr ⟨i, by omega, b⟩⟩
end
end Go.Proofs.Ytnnmbmgnpdcefaa.X
namespace Go.Proofs.Ytnnmbmgnpdcefaa.X
open Go Go.RowKit
set_option linter.unusedVariables false
set_option linter.unusedSimpArgs false
set_option linter.unusedSectionVars false
def ssum (f : Nat → Int) : Nat → Int
  | 0 => 0
  | n + 1 => ssum f n + f n
theorem ssum_head (f : Nat → Int) : ∀ n, ssum f (n + 1) = f 0 + ssum (fun m => f (m + 1)) n
  | 0 => by simp [ssum]
  | n + 1 => by rw [ssum, ssum_head f n, ssum]; omega
theorem ssum_add (f : Nat → Int) (a : Nat) : ∀ b, ssum f (a + b) = ssum f a + ssum (fun m => f (a + m)) b
  | 0 => by simp [ssum]
  | b + 1 => by rw [← Nat.add_assoc, ssum, ssum_add f a b, ssum]; omega
theorem ssum_congr {f g : Nat → Int} : ∀ {n : Nat}, (∀ m, m < n → f m = g m) → ssum f n = ssum g n
  | 0, _ => rfl
  | n + 1, h => by rw [ssum, ssum, ssum_congr fun m hm => h m (by omega), h n (by omega)]
theorem ssum_zero {f : Nat → Int} : ∀ {n : Nat}, (∀ m, m < n → f m = 0) → ssum f n = 0
  | 0, _ => rfl
  | n + 1, h => by rw [ssum, ssum_zero fun m hm => h m (by omega), h n (by omega)]; rfl
theorem ssum_bd {f : Nat → Int} {c : Int} (h : ∀ m, 0 ≤ f m ∧ f m ≤ c) : ∀ n : Nat, 0 ≤ ssum f n ∧ ssum f n ≤ n * c
  | 0 => by simp [ssum]
  | n + 1 => by
    have h1 := ssum_bd h n
    have h2 := h n
    have : ((n + 1 : Nat) : Int) * c = n * c + c := by rw [Int.natCast_add, Int.add_mul]; simp
    rw [ssum]; omega
open Classical in
theorem gsum_ssum {C : T_rules_Spot → Prop} {n : Int} : ∀ ps : List T_rules_Pin, gsum C n ps = ssum (fun m => if Gate (gt ps (m : Int)) ∧ (gt ps (m : Int)).Net = n ∧ C (pspot (gt ps (m : Int))) then (gt ps (m : Int)).Size else 0) ps.length
  | [] => rfl
  | p :: ps => by
    rw [List.length_cons, ssum_head, gsum, gsum_ssum ps]
    congr 1
abbrev isD (l : T_rules_Layout) (i : Nat) : Prop := 0 ≤ (gt (shps l) (i : Int)).fpin ∧ (gt l.Pins (gt (shps l) (i : Int)).fpin).Drive = true
abbrev isG (l : T_rules_Layout) (i : Nat) : Prop := 0 ≤ (gt (shps l) (i : Int)).fpin ∧ (gt l.Pins (gt (shps l) (i : Int)).fpin).Drive = false ∧ 0 < (gt l.Pins (gt (shps l) (i : Int)).fpin).Size
def szI (l : T_rules_Layout) (G : List Int) (k : Int) (i : Nat) : Int := if isG l i ∧ gt G (i : Int) = k then (gt l.Pins (gt (shps l) (i : Int)).fpin).Size else 0
/-- Sets by their groups. -/
def WI (wire : List (Int × List (T_rules_Spot × Bool))) (D : Int → T_rules_Spot → Prop) : Prop := (∀ k p, mhas p (mget k wire []) = true ↔ D k p) ∧ ∀ k, Ks (mget k wire [])
theorem WI.congr {wire : List (Int × List (T_rules_Spot × Bool))} {D D' : Int → T_rules_Spot → Prop} (h : WI wire D) (e : ∀ k p, D k p ↔ D' k p) : WI wire D' := ⟨fun k p => (h.1 k p).trans (e k p), h.2⟩
theorem WI.put {wire : List (Int × List (T_rules_Spot × Bool))} {D : Int → T_rules_Spot → Prop} (h : WI wire D) (x : Int) (p : T_rules_Spot) : WI (mput x (mput p true (mget x wire [])) wire) (fun k q => D k q ∨ k = x ∧ q = p) := by
  refine ⟨fun k q => ?_, fun k => ?_⟩
  · rw [mget_mput]
    by_cases e : k = x
    · rw [if_pos e, has_mput, ← e, h.1]
      exact ⟨fun a => a.elim (fun a => .inr ⟨rfl, a⟩) .inl, fun a => a.elim .inr fun a => .inl a.2⟩
    · rw [if_neg e, h.1]
      exact ⟨.inl, fun a => a.elim id fun a => absurd a.1 e⟩
  · rw [mget_mput]
    split
    · exact (h.2 _).put
    · exact h.2 k
theorem ant16_ok {rows : List T_rules_Spot} (hr : rows.length ≤ 1000) (x : Int) {wire : List (Int × List (T_rules_Spot × Bool))} {D : Int → T_rules_Spot → Prop} (h : WI wire D) (hx : mhas x wire = true) :
    Ok (lp (P_rules_antenna_L16 x rows) fuel (wire, 0)) (fun r => WI r (fun k q => D k q ∨ k = x ∧ q ∈ rows)) := by
  refine ok_lp (fun r => (0 ≤ r.2 ∧ r.2 ≤ rows.length) ∧ mhas x r.1 = true ∧ WI r.1 (fun k q => D k q ∨ k = x ∧ q ∈ rows.take r.2.toNat)) (fun r => ((rows.length : Int) - r.2).toNat) ⟨⟨by simp, by simp⟩, hx, h.congr fun k q => by simp⟩ (by simp only; omega) ?_
  rintro ⟨w, y⟩ ⟨⟨y0, y1⟩, hx, hI⟩
  dsimp only at y0 y1 hx hI
  unfold P_rules_antenna_L16
  dsimp only
  refine ok_ite (fun hlt => ?_) (fun hge => ok_some ?_)
  · have hy : inb y rows.length := ⟨y0, hlt⟩
    refine ok_ck hy (ok_lv (ok_ck hx (ok_lv (ok_ar (by unfold I64; omega) (ok_some ⟨⟨⟨by dsimp only; omega, by dsimp only; omega⟩, has_mput.2 (.inl rfl), (hI.put x (gt rows y)).congr fun k q => ?_⟩, by dsimp only; omega⟩)))))
    dsimp only
    rw [mem_take hy]
    constructor
    · rintro ((h | ⟨h, h1⟩) | ⟨h, h1⟩)
      · exact .inl h
      · exact .inr ⟨h, .inl h1⟩
      · exact .inr ⟨h, .inr h1⟩
    · rintro (h | ⟨h, h1 | h1⟩)
      · exact .inl (.inl h)
      · exact .inl (.inr ⟨h, h1⟩)
      · exact .inr ⟨h, h1⟩
  · refine hI.congr fun k q => ?_
    rw [List.take_of_length_le (by omega)]
structure AnI (l : T_rules_Layout) (v : Int) (G : List Int) (y : Nat) (wire : List (Int × List (T_rules_Spot × Bool))) (size : List (Int × Int)) (driven : List (Int × Bool)) (gate : List (Int × T_rules_Spot)) : Prop where
  wire : WI wire (fun k p => ∃ i : Nat, i < y ∧ (gt (shps l) (i : Int)).fwire = true ∧ p ∈ upL v (gt (shps l) (i : Int)) ∧ gt G (i : Int) = k)
  drv : ∀ k, mget k driven false = true ↔ ∃ i : Nat, i < y ∧ isD l i ∧ gt G (i : Int) = k
  gate : FsI gate (fun k p => ∃ i : Nat, i < y ∧ isG l i ∧ p = gt (gt (shps l) (i : Int)).fspots 0 ∧ gt G (i : Int) = k)
  size : ∀ k, mget k size 0 = ssum (szI l G k) y
section
variable {l : T_rules_Layout}
theorem lt_one {i k : Nat} : i < k + 1 ↔ i < k ∨ i = k := by omega
theorem ex_one {k : Nat} {P : Nat → Prop} : (∃ i, i < k + 1 ∧ P i) ↔ (∃ i, i < k ∧ P i) ∨ P k := by
  constructor
  · rintro ⟨i, hi, h⟩
    rcases lt_one.1 hi with hi | rfl
    · exact .inl ⟨i, hi, h⟩
    · exact .inr h
  · rintro (⟨i, hi, h⟩ | h)
    · exact ⟨i, by omega, h⟩
    · exact ⟨k, by omega, h⟩
theorem pin_fpin {k : Nat} (hk : k < l.Pins.length) : (gt (shps l) ((bas l + k : Nat) : Int)).fpin = k := by rw [sh_pin hk]; rfl
theorem pin_up {v : Int} (hv : 0 ≤ v) {k : Nat} (hk : k < l.Pins.length) : pspot (gt l.Pins (k : Int)) ∈ upL v (gt (shps l) ((bas l + k : Nat) : Int)) := by
  rw [sh_pin hk]
  unfold upL
  rw [if_pos]
  · simp [shP, pspot]
  · intro p hp
    simp only [shP, List.mem_singleton] at hp
    subst hp; exact hv
theorem no_pin {i : Nat} (hi : i < bas l) : ¬ 0 ≤ (gt (shps l) (i : Int)).fpin := fun h => by
  obtain ⟨k, hk, e⟩ := pin_of (by rw [shps_len]; omega) h; omega
theorem gate_size {G : List Int} {v : Int} (hv : 0 ≤ v) (hG : GrpOk (shps l) (upL v) G) {k : Nat} (hk : k < l.Pins.length) :
    ssum (szI l G (gt G ((bas l + k : Nat) : Int))) (shps l).length = gsum (Conn (Adj (shps l) (upL v) (gt l.Pins (k : Int)).Net) (pspot (gt l.Pins (k : Int)))) (gt l.Pins (k : Int)).Net l.Pins := by
  rw [shps_len, ssum_add, ssum_zero (n := bas l) fun i hi => by unfold szI; rw [if_neg]; exact fun h => no_pin hi h.1.1, gsum_ssum, Int.zero_add]
  refine ssum_congr fun m hm => ?_
  have hki : bas l + k < (shps l).length := by rw [shps_len]; omega
  have hmi : bas l + m < (shps l).length := by rw [shps_len]; omega
  unfold szI
  have key : (isG l (bas l + m) ∧ gt G ((bas l + m : Nat) : Int) = gt G ((bas l + k : Nat) : Int)) ↔ (Gate (gt l.Pins (m : Int)) ∧ (gt l.Pins (m : Int)).Net = (gt l.Pins (k : Int)).Net ∧ Conn (Adj (shps l) (upL v) (gt l.Pins (k : Int)).Net) (pspot (gt l.Pins (k : Int))) (pspot (gt l.Pins (m : Int)))) := by
    unfold isG Gate
    rw [pin_fpin hm]
    constructor
    · rintro ⟨⟨_, h1, h2⟩, e⟩
      have hn := hG.net hmi hki e
      have hs := (hG.same hki hmi hn (pin_up hv hk) (pin_up hv hm)).2 e
      rw [pin_net hk] at hs
      rw [pin_net hm, pin_net hk] at hn
      exact ⟨⟨h1, h2⟩, hn, hs⟩
    · rintro ⟨⟨h1, h2⟩, hn, hc⟩
      refine ⟨⟨by omega, h1, h2⟩, ?_⟩
      have hn' : (gt (shps l) ((bas l + m : Nat) : Int)).fnet = (gt (shps l) ((bas l + k : Nat) : Int)).fnet := by rw [pin_net hm, pin_net hk, hn]
      refine (hG.same hki hmi hn' (pin_up hv hk) (pin_up hv hm)).1 ?_
      rw [pin_net hk]; exact hc
  by_cases q : isG l (bas l + m) ∧ gt G ((bas l + m : Nat) : Int) = gt G ((bas l + k : Nat) : Int)
  · rw [if_pos q, if_pos (key.1 q), pin_fpin hm]
  · rw [if_neg q, if_neg fun h => q (key.2 h)]
end
section
variable {l : T_rules_Layout} (hl : LayR l)
include hl
theorem szI_bd (G : List Int) (k : Int) (i : Nat) : 0 ≤ szI l G k i ∧ szI l G k i ≤ 5 := by
  unfold szI
  split
  · rename_i h
    by_cases q : i < (shps l).length
    · obtain ⟨m, hm, rfl⟩ := pin_of q h.1.1
      have := (hl.pin m ⟨by omega, by omega⟩).size
      rw [pin_fpin hm]; omega
    · have : gt (shps l) (i : Int) = default := by unfold gt; rw [List.getD_eq_getElem?_getD, List.getElem?_eq_none (by omega)]; rfl
      by_cases q2 : X.inb (gt (shps l) (i : Int)).fpin l.Pins.length
      · have := (hl.pin _ q2).size; omega
      · have e : gt l.Pins (gt (shps l) (i : Int)).fpin = default := by
          have h0 := h.1.1
          generalize (gt (shps l) (i : Int)).fpin = z at q2 h0 ⊢
          unfold gt; rw [List.getD_eq_getElem?_getD, List.getElem?_eq_none (by omega)]; rfl
        rw [e]; decide
  · omega
theorem ant9_ok {v : Int} {G : List Int} (hGl : G.length = (shps l).length) :
    Ok (lp (P_rules_antenna_L9 l (shps l) G v) fuel ([], [], [], [], 0)) (fun r => AnI l v G (shps l).length r.1 r.2.1 r.2.2.1 r.2.2.2) := by
  have hsl := hl.shLen
  refine ok_lp (fun s => (0 ≤ s.2.2.2.2 ∧ s.2.2.2.2 ≤ (shps l).length) ∧ AnI l v G s.2.2.2.2.toNat s.1 s.2.1 s.2.2.1 s.2.2.2.1) (fun s => (((shps l).length : Int) - s.2.2.2.2).toNat) ⟨⟨by simp, by simp⟩, ?_⟩ (by simp only; omega) ?_
  · refine ⟨⟨fun k p => ?_, fun k => ?_⟩, fun k => ?_, ⟨fun k => ?_, fun k h => ?_, fun k p h => ?_⟩, fun k => ?_⟩
    · simp [mget, mfind, mhas]
    · simp [mget, mfind]; exact Ks.nil
    · simp [mget, mfind]
    · simp [mhas, mfind]
    · simp [mhas, mfind] at h
    · obtain ⟨i, hi, _⟩ := h; simp at hi
    · simp [mget, mfind, ssum]
  rintro ⟨wire, size, driven, gate, y⟩ ⟨⟨y0, y1⟩, hI⟩
  dsimp only at y0 y1 hI
  obtain ⟨k, rfl⟩ := Int.eq_ofNat_of_zero_le y0
  rw [Int.toNat_natCast] at hI
  unfold P_rules_antenna_L9
  dsimp only
  refine ok_ite (fun hlt => ?_) (fun hge => ok_some ?_)
  · have hk : k < (shps l).length := by omega
    have hsp := hl.spots (sh_mem hk)
    have hsome := List.length_pos_iff.2 (hl.some (sh_mem hk))
    have hpin : 0 ≤ (gt (shps l) (k : Int)).fpin → X.inb (gt (shps l) (k : Int)).fpin l.Pins.length := fun h => by
      obtain ⟨m, hm, rfl⟩ := pin_of hk h
      rw [pin_fpin hm]; exact ⟨by omega, by omega⟩
    have hwp : (gt (shps l) (k : Int)).fwire = true → ¬ 0 ≤ (gt (shps l) (k : Int)).fpin := fun h h' => by
      obtain ⟨m, hm, rfl⟩ := pin_of hk h'
      rw [sh_pin hm] at h; simp [shP] at h
    refine ok_ck ⟨y0, hlt⟩ (ok_lv (ok_ck ⟨y0, by omega⟩ (ok_lv (ok_bd (R := fun r => AnI l v G (k + 1) r.1 r.2.1 r.2.2.1 r.2.2.2) (ok_ite (fun hw => ?_) (fun hw => ?_)) fun r hr => ok_ar (by unfold I64; omega) (ok_some ⟨⟨⟨by dsimp only; omega, by dsimp only; omega⟩, by dsimp only; rw [show ((k : Int) + 1).toNat = k + 1 by omega]; exact hr⟩, by dsimp only; omega⟩)))))
    · have hnp := hwp hw
      refine ok_lv (ok_bd (R := fun w => mhas (gt G (k : Int)) w = true ∧ WI w (fun q p => ∃ i : Nat, i < k ∧ (gt (shps l) (i : Int)).fwire = true ∧ p ∈ upL v (gt (shps l) (i : Int)) ∧ gt G (i : Int) = q)) (ok_ite (fun hc => ok_ck (by simpa using hc) (ok_lv (ok_some ?_))) (fun hc => ok_some ⟨by simpa using hc, hI.wire⟩)) fun w hw1 => ok_bd (up_ok (by omega) v) ?_)
      · have hno : mhas (gt G (k : Int)) wire = false := by simpa using hc
        have hsame : ∀ q, mget q (mput (gt G (k : Int)) [] wire) [] = mget q wire [] := fun q => by
          rw [mget_mput]
          split
          · rename_i e
            subst e
            unfold mhas at hno
            unfold mget
            cases hf : mfind (gt G (k : Int)) wire with
            | none => rfl
            | some v => rw [hf] at hno; simp at hno
          · rfl
        exact ⟨has_mput.2 (.inl rfl), fun q p => by rw [hsame]; exact hI.wire.1 q p, fun q => by rw [hsame]; exact hI.wire.2 q⟩
      · rintro _ rfl
        have hup : (upL v (gt (shps l) (k : Int))).length ≤ 1000 := by unfold upL; split; omega; simp
        refine ok_bd (ant16_ok hup _ hw1.2 hw1.1) fun w' hw' => ok_some ⟨hw'.congr fun q p => ?_, fun q => ?_, hI.gate.congr fun q p => ?_, fun q => ?_⟩
        · rw [ex_one]
          constructor
          · rintro (h | ⟨h1, h2⟩)
            · exact .inl h
            · exact .inr ⟨hw, h2, h1.symm⟩
          · rintro (h | ⟨_, h1, h2⟩)
            · exact .inl h
            · exact .inr ⟨h2.symm, h1⟩
        · rw [ex_one]; dsimp only; rw [hI.drv]
          exact ⟨.inl, fun h => h.elim id fun h => absurd h.1.1 hnp⟩
        · rw [ex_one]
          exact ⟨.inl, fun h => h.elim id fun h => absurd h.1.1 hnp⟩
        · dsimp only
          rw [hI.size, ssum]
          unfold szI
          rw [if_neg fun h => hnp h.1.1]; omega
    · have hwire : WI wire (fun q p => ∃ i : Nat, i < k + 1 ∧ (gt (shps l) (i : Int)).fwire = true ∧ p ∈ upL v (gt (shps l) (i : Int)) ∧ gt G (i : Int) = q) := hI.wire.congr fun q p => by
        rw [ex_one]
        exact ⟨.inl, fun h => h.elim id fun h => absurd h.1 hw⟩
      refine ok_ck (fun h => hpin (by simpa using h)) (ok_lv (ok_bd (R := fun r => AnI l v G (k + 1) wire r.1 r.2.1 r.2.2) (ok_ite (fun hd => ok_lv (ok_some ?_)) (fun hd => ok_ck (fun h => hpin (by simpa using h)) (ok_lv (ok_bd (R := fun r => AnI l v G (k + 1) wire r.1 driven r.2) (ok_ite (fun hg => ?_) (fun hg => ok_some ?_)) fun r hr => ok_some hr)))) fun r hr => ok_some hr))
      · have hd' : isD l k := by simpa using hd
        have hng : ¬ isG l k := fun h => absurd h.2.1 (by rw [hd'.2]; simp)
        refine ⟨hwire, fun q => ?_, hI.gate.congr fun q p => ?_, fun q => ?_⟩
        · rw [ex_one]; dsimp only; rw [mget_mput]
          by_cases e : q = gt G (k : Int)
          · rw [if_pos e]; exact ⟨fun _ => .inr ⟨hd', e.symm⟩, fun _ => rfl⟩
          · rw [if_neg e, hI.drv]
            exact ⟨.inl, fun h => h.elim id fun h => absurd h.2.symm e⟩
        · rw [ex_one]
          exact ⟨.inl, fun h => h.elim id fun h => absurd h.1 hng⟩
        · dsimp only
          rw [hI.size, ssum]
          unfold szI
          rw [if_neg fun h => hng h.1]; omega
      · have hnd : ¬ isD l k := by simpa using hd
        have hg' : isG l k := by
          have h : 0 ≤ (gt (shps l) (k : Int)).fpin ∧ 0 < (gt l.Pins (gt (shps l) (k : Int)).fpin).Size := by simpa using hg
          refine ⟨h.1, ?_, h.2⟩
          cases q : (gt l.Pins (gt (shps l) (k : Int)).fpin).Drive
          · rfl
          · exact absurd ⟨h.1, q⟩ hnd
        have hst := hI.gate.step (gt G (k : Int)) (gt (gt (shps l) (k : Int)).fspots 0)
        refine ok_lv (ok_lv (ok_ck (fun _ => ⟨by omega, by omega⟩) (ok_lv ?_)))
        rw [gd_before]
        refine ok_bd_some (ok_lv (ok_bd (R := fun r => FsI r (fun q p => ∃ i : Nat, i < k + 1 ∧ isG l i ∧ p = gt (gt (shps l) (i : Int)).fspots 0 ∧ gt G (i : Int) = q)) (ok_ite (fun hc => ok_ck ⟨by omega, by omega⟩ (ok_lv (ok_lv (ok_some ?_)))) (fun hc => ok_some ?_)) fun r hr => ok_lv (ok_ck (hpin hg'.1) (ok_lv (ok_ar ?_ (ok_lv (ok_some ⟨hwire, fun q => ?_, hr, fun q => ?_⟩)))))))
        · rw [if_pos hc] at hst
          refine hst.congr fun q p => ?_
          rw [ex_one]
          exact ⟨fun h => h.elim .inl fun h => .inr ⟨hg', h.2, h.1.symm⟩, fun h => h.elim .inl fun h => .inr ⟨h.2.2.symm, h.2.1⟩⟩
        · rw [if_neg hc] at hst
          refine hst.congr fun q p => ?_
          rw [ex_one]
          exact ⟨fun h => h.elim .inl fun h => .inr ⟨hg', h.2, h.1.symm⟩, fun h => h.elim .inl fun h => .inr ⟨h.2.2.symm, h.2.1⟩⟩
        · have h1 := ssum_bd (szI_bd hl G (gt G (k : Int))) k
          have h2 := (hl.pin _ (hpin hg'.1)).size
          rw [hI.size]
          unfold I64; omega
        · rw [ex_one, hI.drv]
          exact ⟨.inl, fun h => h.elim id fun h => absurd h.1 hnd⟩
        · rw [mget_mput, ssum]
          by_cases e : q = gt G (k : Int)
          · have hz : szI l G q k = (gt l.Pins (gt (shps l) (k : Int)).fpin).Size := by unfold szI; rw [if_pos ⟨hg', e.symm⟩]
            rw [if_pos e, hz, ← e, hI.size]
          · have hz : szI l G q k = 0 := by unfold szI; rw [if_neg fun h => e h.2.symm]
            rw [if_neg e, hI.size, hz]; omega
      · have hnd : ¬ isD l k := by simpa using hd
        have hng : ¬ isG l k := fun h => hg (by simp [h.1, h.2.2])
        refine ⟨hwire, fun q => ?_, hI.gate.congr fun q p => ?_, fun q => ?_⟩
        · rw [ex_one, hI.drv]
          exact ⟨.inl, fun h => h.elim id fun h => absurd h.1 hnd⟩
        · rw [ex_one]
          exact ⟨.inl, fun h => h.elim id fun h => absurd h.1 hng⟩
        · dsimp only
          rw [hI.size, ssum]
          unfold szI
          rw [if_neg fun h => hng h.1]; omega
  · have : k = (shps l).length := by omega
    subst this; exact hI
omit hl in
/-- The faults up to one layer. -/
def F7L (l : T_rules_Layout) (ly : Int) (f : T_rules_Fault) : Prop := ∃ p ∈ l.Pins, Gate p ∧
  (∀ q ∈ l.Pins, Gate q → q.Net = p.Net → Conn (Adj (shps l) (upL ly) p.Net) (pspot p) (pspot q) → befS (pspot q) (pspot p) = false) ∧
  (∀ q ∈ l.Pins, q.Drive = true → q.Net = p.Net → ¬ Conn (Adj (shps l) (upL ly) p.Net) (pspot p) (pspot q)) ∧
  (∃ L : List T_rules_Spot, L.Nodup ∧ (∀ x, x ∈ L ↔ WireC l ly p.Net x ∧ Conn (Adj (shps l) (upL ly) p.Net) (pspot p) x) ∧ 64 * gsum (Conn (Adj (shps l) (upL ly) p.Net) (pspot p)) p.Net l.Pins < L.length) ∧
  f = ⟨7, p.Net, 0, ⟨ly, p.X, p.Y⟩⟩
def O7 (l : T_rules_Layout) (v : Int) (G : List Int) (wire : List (Int × List (T_rules_Spot × Bool))) (size : List (Int × Int)) (driven : List (Int × Bool)) (gate : List (Int × T_rules_Spot)) (i : Nat) (f : T_rules_Fault) : Prop :=
  mhas (gt G (i : Int)) gate = true ∧ mget (gt G (i : Int)) driven false = false ∧ 64 * mget (gt G (i : Int)) size 0 < (mget (gt G (i : Int)) wire []).length ∧ f = ⟨7, (gt (shps l) (i : Int)).fnet, 0, ⟨v, (mget (gt G (i : Int)) gate ⟨0, 0, 0⟩).X, (mget (gt G (i : Int)) gate ⟨0, 0, 0⟩).Y⟩⟩
omit hl in
theorem isG_pin {i : Nat} (hi : i < (shps l).length) (h : isG l i) : ∃ k : Nat, k < l.Pins.length ∧ i = bas l + k ∧ Gate (gt l.Pins (k : Int)) ∧ gt (gt (shps l) (i : Int)).fspots 0 = pspot (gt l.Pins (k : Int)) := by
  obtain ⟨h0, h1, h2⟩ := h
  obtain ⟨k, hk, rfl⟩ := pin_of hi h0
  rw [pin_fpin hk] at h1 h2
  exact ⟨k, hk, rfl, ⟨h1, h2⟩, by rw [sh_pin hk]; rfl⟩
omit hl in
theorem pin_isG {k : Nat} (hk : k < l.Pins.length) (h : Gate (gt l.Pins (k : Int))) : isG l (bas l + k) := by
  unfold isG
  rw [pin_fpin hk]; exact ⟨by omega, h.1, h.2⟩
omit hl in
theorem o7_iff {v : Int} (hv : 0 ≤ v) {G : List Int} (hG : GrpOk (shps l) (upL v) G) {wire : List (Int × List (T_rules_Spot × Bool))} {size : List (Int × Int)} {driven : List (Int × Bool)} {gate : List (Int × T_rules_Spot)} (hI : AnI l v G (shps l).length wire size driven gate) (f : T_rules_Fault) :
    (∃ i : Nat, i < (shps l).length ∧ O7 l v G wire size driven gate i f) ↔ F7L l v f := by
  -- a pin's group
  have wires : ∀ {k : Nat}, k < l.Pins.length → ∀ x, x ∈ (mget (gt G ((bas l + k : Nat) : Int)) wire []).map (·.1) ↔ WireC l v (gt l.Pins (k : Int)).Net x ∧ Conn (Adj (shps l) (upL v) (gt l.Pins (k : Int)).Net) (pspot (gt l.Pins (k : Int))) x := fun {k} hk x => by
    have hki : bas l + k < (shps l).length := by rw [shps_len]; omega
    rw [← mhas_mem, hI.wire.1]
    constructor
    · rintro ⟨j, hj, hw, hx, e⟩
      have hn := hG.net hj hki e
      have hc := (hG.conn (q := x) hki (pin_up hv hk)).2 ⟨j, hj, e, hx⟩
      rw [pin_net hk] at hc hn
      refine ⟨?_, hc⟩
      rcases sh_three hj with ⟨w, hw', e'⟩ | ⟨w, hw', e'⟩ | ⟨m, hm, rfl⟩
      · rw [e'] at hx hn
        exact ⟨w, hw', hn, hx⟩
      · rw [e'] at hw; simp [shV] at hw
      · rw [sh_pin hm] at hw; simp [shP] at hw
    · rintro ⟨⟨w, hw, hn, hx⟩, hc⟩
      obtain ⟨j, hj, rfl⟩ := List.getElem_of_mem hw
      have hji : j < (shps l).length := by rw [shps_len]; unfold bas; omega
      have ej := sh_wire hj
      rw [← gt_nth hj] at hn hx
      rw [← ej] at hx
      have hn' : (gt (shps l) (j : Int)).fnet = (gt (shps l) ((bas l + k : Nat) : Int)).fnet := by rw [ej, pin_net hk]; exact hn
      refine ⟨j, hji, by rw [ej]; rfl, hx, (hG.same hki hji hn' (pin_up hv hk) hx).1 ?_⟩
      rw [pin_net hk]; exact hc
  have same : ∀ {k m : Nat}, k < l.Pins.length → m < l.Pins.length → (gt l.Pins (m : Int)).Net = (gt l.Pins (k : Int)).Net → (Conn (Adj (shps l) (upL v) (gt l.Pins (k : Int)).Net) (pspot (gt l.Pins (k : Int))) (pspot (gt l.Pins (m : Int))) ↔ gt G ((bas l + m : Nat) : Int) = gt G ((bas l + k : Nat) : Int)) := fun {k m} hk hm hn => by
    have hki : bas l + k < (shps l).length := by rw [shps_len]; omega
    have hmi : bas l + m < (shps l).length := by rw [shps_len]; omega
    have := hG.same hki hmi (by rw [pin_net hm, pin_net hk, hn]) (pin_up hv hk) (pin_up hv hm)
    rw [pin_net hk] at this; exact this
  have drive : ∀ {m : Nat}, m < l.Pins.length → (gt l.Pins (m : Int)).Drive = true → isD l (bas l + m) := fun {m} hm h => by
    unfold isD; rw [pin_fpin hm]; exact ⟨by omega, h⟩
  constructor
  · rintro ⟨i, hi, hg, hd, hlt, rfl⟩
    obtain ⟨c, hc, hcg, ec, e⟩ := hI.gate.mem _ hg
    obtain ⟨k, hk, rfl, hgk, es⟩ := isG_pin hc hcg
    rw [es] at ec
    have hn := hG.net hc hi e
    rw [pin_net hk] at hn
    rw [← e] at hd hlt ec
    rw [← hn, ← e, ec]
    refine ⟨_, gt_mem ⟨by omega, by omega⟩, hgk, fun q hq hgq hqn hqc => ?_, fun q hq hqd hqn hqc => ?_, ⟨(mget (gt G ((bas l + k : Nat) : Int)) wire []).map (fun e : T_rules_Spot × Bool => e.1), (show Ks (mget (gt G ((bas l + k : Nat) : Int)) wire []) from hI.wire.2 _), wires hk, ?_⟩, rfl⟩
    · obtain ⟨m, hm, rfl⟩ := List.getElem_of_mem hq
      rw [← gt_nth hm] at hgq hqn hqc ⊢
      have := hI.gate.min (gt G ((bas l + k : Nat) : Int)) (pspot (gt l.Pins (m : Int))) ⟨bas l + m, by rw [shps_len]; omega, pin_isG hm hgq, by rw [sh_pin hm]; rfl, (same hk hm hqn).1 hqc⟩
      rw [ec] at this; exact this
    · obtain ⟨m, hm, rfl⟩ := List.getElem_of_mem hq
      rw [← gt_nth hm] at hqd hqn hqc
      have := (hI.drv (gt G ((bas l + k : Nat) : Int))).2 ⟨bas l + m, by rw [shps_len]; omega, drive hm hqd, (same hk hm hqn).1 hqc⟩
      rw [hd] at this; cases this
    · rw [List.length_map, ← gate_size hv hG hk, ← hI.size]; exact hlt
  · rintro ⟨p, hp, hgp, hmin, hdr, ⟨L, hL, hmem, hlt⟩, rfl⟩
    obtain ⟨k, hk, rfl⟩ := List.getElem_of_mem hp
    rw [← gt_nth hk] at hgp hmin hdr hmem hlt ⊢
    have hki : bas l + k < (shps l).length := by rw [shps_len]; omega
    have hhas : mhas (gt G ((bas l + k : Nat) : Int)) gate = true := (hI.gate.key _).2 ⟨pspot (gt l.Pins (k : Int)), bas l + k, hki, pin_isG hk hgp, by rw [sh_pin hk]; rfl, rfl⟩
    have hval : mget (gt G ((bas l + k : Nat) : Int)) gate ⟨0, 0, 0⟩ = pspot (gt l.Pins (k : Int)) := by
      obtain ⟨c, hc, hcg, ec, e⟩ := hI.gate.mem _ hhas
      obtain ⟨m, hm, rfl, hgm, es⟩ := isG_pin hc hcg
      have h1 := hI.gate.min _ (pspot (gt l.Pins (k : Int))) ⟨bas l + k, hki, pin_isG hk hgp, by rw [sh_pin hk]; rfl, rfl⟩
      have hn := hG.net hc hki e
      rw [pin_net hm, pin_net hk] at hn
      have h2 := hmin _ (gt_mem (xs := l.Pins) (i := (m : Int)) ⟨by omega, by omega⟩) hgm hn ((same hk hm hn).2 e)
      rw [ec, es] at h1 ⊢
      exact befS_eq h2 h1
    refine ⟨bas l + k, hki, hhas, ?_, ?_, ?_⟩
    · cases q : mget (gt G ((bas l + k : Nat) : Int)) driven false with
      | false => rfl
      | true =>
        obtain ⟨j, hj, hjd, e⟩ := (hI.drv _).1 q
        obtain ⟨m, hm, rfl⟩ := pin_of hj hjd.1
        have hn := hG.net hj hki e
        rw [pin_net hm, pin_net hk] at hn
        have hdm := hjd.2
        rw [pin_fpin hm] at hdm
        exact absurd ((same hk hm hn).2 e) (hdr _ (gt_mem ⟨by omega, by omega⟩) hdm hn)
    · rw [hI.size, gate_size hv hG hk]
      have hle : L.length ≤ ((mget (gt G ((bas l + k : Nat) : Int)) wire []).map (·.1)).length := nodup_le hL fun x hx => (wires hk x).2 ((hmem x).1 hx)
      rw [List.length_map] at hle
      omega
    · rw [hval, pin_net hk]; rfl
variable {F : T_rules_Fault → Prop} (hF : ∀ f, F f → FS l f)
include hF
theorem antenna_ok {seen : List (T_rules_Fault × Bool)} (hB : Bag F seen) : Ok (P_rules_antenna seen false l (shps l)) (fun r => r.2 = false ∧ Bag (fun f => F f ∨ F7 l f) r.1) := by
  have hLy := hl.Ly
  have hsl := hl.shLen
  have tofs : ∀ f v, 0 ≤ v ∧ v < l.Layers → F7L l v f → FS l f := fun f v hv h => .inr (.inr (.inr (.inr (.inr (.inr ⟨v, hv, h⟩)))))
  unfold P_rules_antenna
  refine ok_bd (R := fun r => r.2 = false ∧ Bag (fun f => F f ∨ F7 l f) r.1) ?_ fun x hx => ok_some hx
  refine ok_lp (fun q => (0 ≤ q.1 ∧ q.1 ≤ l.Layers) ∧ q.2.2 = false ∧ Bag (fun f => F f ∨ ∃ v, (0 ≤ v ∧ v < q.1) ∧ F7L l v f) q.2.1) (fun q => (l.Layers - q.1).toNat) ⟨⟨by simp, by simp only; omega⟩, rfl, hB.congr fun f => ?_⟩ (by simp only; omega) ?_
  · constructor
    · exact .inl
    · rintro (h | ⟨v, h, _⟩)
      · exact h
      · dsimp only at h; omega
  rintro ⟨y, bs, b⟩ ⟨⟨y0, y1⟩, rfl, hb⟩
  dsimp only at y0 y1 hb
  unfold P_rules_antenna_L2
  dsimp only
  refine ok_ite (fun hlt => ?_) (fun hge => ok_some ⟨rfl, hb.congr fun f => ?_⟩)
  · refine ok_bd (groups_3_ok (by omega) (fun s hs => by have := hl.spots hs; omega) y) fun G hG => ok_bd (ant9_ok hl (v := y) hG.1) ?_
    rintro ⟨wire, size, driven, gate⟩ hI
    dsimp only at hI
    have hGl := hG.1
    have hiff := o7_iff y0 hG hI
    refine ok_bd (R := fun r => r.2 = false ∧ Bag (fun f => (F f ∨ ∃ v, (0 ≤ v ∧ v < y) ∧ F7L l v f) ∨ F7L l y f) r.1) ?_ ?_
    · refine ok_lp (fun s => (0 ≤ s.1 ∧ s.1 ≤ (shps l).length) ∧ s.2.2 = false ∧ Bag (fun f => (F f ∨ ∃ v, (0 ≤ v ∧ v < y) ∧ F7L l v f) ∨ ∃ i : Nat, i < s.1.toNat ∧ O7 l y G wire size driven gate i f) s.2.1) (fun s => (((shps l).length : Int) - s.1).toNat) ⟨⟨by simp, by simp⟩, rfl, hb.congr fun f => by simp⟩ (by simp only; omega) ?_
      rintro ⟨z, bs', b⟩ ⟨⟨z0, z1⟩, rfl, hb'⟩
      dsimp only at z0 z1 hb'
      obtain ⟨k, rfl⟩ := Int.eq_ofNat_of_zero_le z0
      rw [Int.toNat_natCast] at hb'
      unfold P_rules_antenna_L29
      dsimp only
      refine ok_ite (fun hz => ?_) (fun hz => ok_some ⟨rfl, hb'.congr fun f => ?_⟩)
      · have hk : k < (shps l).length := by omega
        have hbd := ssum_bd (szI_bd hl G (gt G (k : Int))) (shps l).length
        have hsz := hI.size (gt G (k : Int))
        refine ok_ck ⟨z0, hz⟩ (ok_lv (ok_ck ⟨z0, by omega⟩ (ok_lv (ok_lv (ok_lv (ok_lv (ok_lv (ok_lv (ok_lv (ok_ck (fun _ => by unfold I64; omega) (ok_lv (ok_lv (ok_bd (R := fun r => r.2 = false ∧ Bag (fun f => (F f ∨ ∃ v, (0 ≤ v ∧ v < y) ∧ F7L l v f) ∨ ∃ i : Nat, i < k + 1 ∧ O7 l y G wire size driven gate i f) r.1) (ok_ite (fun hc => ?_) (fun hc => ok_some ⟨rfl, hb'.congr fun f => ?_⟩)) ?_)))))))))))))
        · simp only [Bool.and_eq_true, decide_eq_true_eq, Bool.not_eq_true'] at hc
          have h7 : O7 l y G wire size driven gate k ⟨7, (gt (shps l) (k : Int)).fnet, 0, ⟨y, (mget (gt G (k : Int)) gate ⟨0, 0, 0⟩).X, (mget (gt G (k : Int)) gate ⟨0, 0, 0⟩).Y⟩⟩ := ⟨hc.1.1, hc.1.2, hc.2, rfl⟩
          refine add_bd hl hb' (fun f h => ?_) (tofs _ y ⟨y0, hlt⟩ ((hiff _).1 ⟨k, hk, h7⟩)) fun s hs => ok_some ⟨rfl, hs.congr fun f => ?_⟩
          · rcases h with (h | ⟨v, hv, h⟩) | ⟨i, a, h⟩
            · exact hF f h
            · exact tofs f v ⟨hv.1, by omega⟩ h
            · exact tofs f y ⟨y0, hlt⟩ ((hiff f).1 ⟨i, by omega, h⟩)
          · rw [ex_one]
            constructor
            · rintro ((h | h) | rfl)
              · exact .inl h
              · exact .inr (.inl h)
              · exact .inr (.inr h7)
            · rintro (h | h | h)
              · exact .inl (.inl h)
              · exact .inl (.inr h)
              · exact .inr h.2.2.2
        · rw [ex_one]
          refine ⟨fun h => h.elim .inl fun h => .inr (.inl h), fun h => h.elim .inl fun h => h.elim .inr fun h => absurd ?_ hc⟩
          simp [h.1, h.2.1, h.2.2.1]
        · rintro ⟨s, b⟩ ⟨rfl, hs⟩
          exact ok_ar (by unfold I64; omega) (ok_some ⟨⟨⟨by dsimp only; omega, by dsimp only; omega⟩, rfl, by dsimp only; rw [show ((k : Int) + 1).toNat = k + 1 by omega]; exact hs⟩, by dsimp only; omega⟩)
      · have : k = (shps l).length := by omega
        rw [← hiff, this]
    · rintro ⟨s, b⟩ ⟨rfl, hs⟩
      refine ok_ar (by unfold I64; omega) (ok_some ⟨⟨⟨by dsimp only; omega, by dsimp only; omega⟩, rfl, hs.congr fun f => ?_⟩, by dsimp only; omega⟩)
      dsimp only
      constructor
      · rintro ((h | ⟨v, hv, h⟩) | h)
        · exact .inl h
        · exact .inr ⟨v, ⟨hv.1, by omega⟩, h⟩
        · exact .inr ⟨y, ⟨y0, by omega⟩, h⟩
      · rintro (h | ⟨v, hv, h⟩)
        · exact .inl (.inl h)
        · by_cases e : v = y
          · subst e; exact .inr h
          · exact .inl (.inr ⟨v, ⟨hv.1, by omega⟩, h⟩)
  · constructor
    · rintro (h | ⟨v, hv, h⟩)
      · exact .inl h
      · exact .inr ⟨v, ⟨hv.1, by omega⟩, h⟩
    · rintro (h | ⟨v, hv, h⟩)
      · exact .inl h
      · exact .inr ⟨v, ⟨hv.1, by omega⟩, h⟩
end
end Go.Proofs.Ytnnmbmgnpdcefaa.X
namespace Go.Proofs.Ytnnmbmgnpdcefaa.X
open Go Go.RowKit
set_option linter.unusedVariables false
set_option linter.unusedSimpArgs false
set_option linter.unusedSectionVars false
/-- The faults that fulfil F, sorted, each once. -/
def FR (F : T_rules_Fault → Prop) (r : List T_rules_Fault) : Prop := r.Pairwise (fun x y => ¬ cmpFault y x < 0) ∧ r.Nodup ∧ ∀ f, f ∈ r ↔ F f
theorem FR.sort {F : T_rules_Fault → Prop} {L : List T_rules_Fault} (hn : L.Nodup) (hm : ∀ f, f ∈ L ↔ F f) : FR F (sortF cmpFault L) := by
  have htr : ∀ a b c : T_rules_Fault, ¬ cmpFault b a < 0 → ¬ cmpFault c b < 0 → ¬ cmpFault c a < 0 := fun a b c h1 h2 h3 => by
    rw [cmpFault_lex] at h1 h2 h3
    by_cases q : lexL (keyF b) (keyF c)
    · exact h1 (lexL_tr q h3)
    · rw [lexL_tot (x := keyF b) (y := keyF c) rfl q h2] at h1
      exact h1 h3
  have hto : ∀ a b : T_rules_Fault, ¬ cmpFault b a < 0 ∨ ¬ cmpFault a b < 0 := fun a b => by
    rw [cmpFault_lex, cmpFault_lex]
    by_cases q : lexL (keyF b) (keyF a)
    · exact .inr fun h => lexL_irr (lexL_tr q h)
    · exact .inl q
  unfold sortF
  refine ⟨?_, (List.mergeSort_perm _ _).nodup_iff.2 hn, fun f => List.mem_mergeSort.trans (hm f)⟩
  refine (List.pairwise_mergeSort (le := fun x y => !decide (cmpFault y x < 0)) (fun a b c h1 h2 => ?_) (fun a b => ?_) L).imp fun h => by simpa using h
  · simp only [Bool.not_eq_true', decide_eq_false_iff_not] at h1 h2 ⊢
    exact htr a b c h1 h2
  · simp only [Bool.or_eq_true, Bool.not_eq_true', decide_eq_false_iff_not]
    exact hto a b
theorem FR.eq {F : T_rules_Fault → Prop} {r r' : List T_rules_Fault} (h : FR F r) (h' : FR F r') : r = r' := by
  refine List.Perm.eq_of_pairwise (le := fun x y => ¬ cmpFault y x < 0) (fun a b _ _ h1 h2 => ?_) h.1 h'.1 ((List.perm_ext_iff_of_nodup h.2.1 h'.2.1).2 fun a => (h.2.2 a).trans (h'.2.2 a).symm)
  rw [cmpFault_lex] at h1 h2
  exact keyF_inj (lexL_tot rfl h2 h1)
theorem FR.filter {F : T_rules_Fault → Prop} {r : List T_rules_Fault} (h : FR F r) (keep : T_rules_Fault → Bool) : FR (fun f => F f ∧ keep f = true) (r.filter keep) :=
  ⟨h.1.filter keep, h.2.1.filter keep, fun f => by rw [List.mem_filter, h.2.2]⟩
theorem FR.congr {F G : T_rules_Fault → Prop} {r : List T_rules_Fault} (h : FR F r) (e : ∀ f, F f ↔ G f) : FR G r := ⟨h.1, h.2.1, fun f => (h.2.2 f).trans (e f)⟩
theorem Faults_ok {l : T_rules_Layout} (hl : LayR l) : NOk (P_rules_Faults l) (fun r => r.2 = 0 ∧ FR (FS l) r.1) := by
  unfold P_rules_Faults
  refine nok_bo (RCheck_ok hl) ?_
  rintro _ rfl
  refine nok_f (by simp) (nok_bo (shapes_ok hl) ?_)
  rintro _ rfl
  refine nok_bo (shorts_ok hl (F := fun _ => False) (fun f h => h.elim) Bag.nil) ?_
  rintro ⟨b1, _⟩ ⟨rfl, h1⟩
  refine nok_f (by simp) (nok_bo (walled_ok hl (F := fun f => False ∨ F1 (shps l) f) (fun f h => .inl (h.resolve_left id)) h1) ?_)
  rintro ⟨b2, _⟩ ⟨rfl, h2⟩
  refine nok_f (by simp) (nok_bd (near_ok hl (F := fun f => (False ∨ F1 (shps l) f) ∨ F2 l f) (fun f h => ?_) h2) ?_)
  · rcases h with h | h
    · exact .inl (h.resolve_left id)
    · exact .inr (.inl h)
  rintro ⟨b3, _⟩ ⟨rfl, h3⟩
  refine nok_f (by simp) (nok_bd (small_ok hl (F := fun f => ((False ∨ F1 (shps l) f) ∨ F2 l f) ∨ F3 l f) (fun f h => ?_) h3) ?_)
  · rcases h with (h | h) | h
    · exact .inl (h.resolve_left id)
    · exact .inr (.inl h)
    · exact .inr (.inr (.inl h))
  rintro ⟨b4, _⟩ ⟨rfl, h4⟩
  refine nok_f (by simp) (nok_bo (open_ok hl (F := fun f => (((False ∨ F1 (shps l) f) ∨ F2 l f) ∨ F3 l f) ∨ F4 l f) (fun f h => ?_) h4) ?_)
  · rcases h with ((h | h) | h) | h
    · exact .inl (h.resolve_left id)
    · exact .inr (.inl h)
    · exact .inr (.inr (.inl h))
    · exact .inr (.inr (.inr (.inl h)))
  rintro ⟨b5, _⟩ ⟨rfl, h5⟩
  refine nok_f (by simp) (nok_bo (antenna_ok hl (F := fun f => (((((False ∨ F1 (shps l) f) ∨ F2 l f) ∨ F3 l f) ∨ F4 l f) ∨ F5 l f) ∨ F6 l f) (fun f h => ?_) h5) ?_)
  · rcases h with ((((h | h) | h) | h) | h) | h
    · exact .inl (h.resolve_left id)
    · exact .inr (.inl h)
    · exact .inr (.inr (.inl h))
    · exact .inr (.inr (.inr (.inl h)))
    · exact .inr (.inr (.inr (.inr (.inl h))))
    · exact .inr (.inr (.inr (.inr (.inr (.inl h)))))
  rintro ⟨b6, _⟩ ⟨rfl, h6⟩
  have hb : Bag (FS l) b6 := h6.congr fun f => by unfold FS; simp only [false_or, or_assoc]
  obtain ⟨hk, hm, _⟩ := hb
  have hlen : b6.length < 10000 := by
    have := few hl (L := List.map (fun e : T_rules_Fault × Bool => e.1) b6) hk fun x hx => (hm x).1 (mhas_mem.2 hx)
    simpa using this
  have hk' : (List.map (fun e : T_rules_Fault × Bool => e.1) b6).Nodup := hk
  have inj : ∀ i j : Nat, i < b6.length → j < b6.length → (gt b6 (i : Int)).1 = (gt b6 (j : Int)).1 → i = j := fun i j hi hj e => by
    rw [gt_nth hi, gt_nth hj] at e
    have hp := List.pairwise_iff_getElem.1 hk'
    rcases Nat.lt_trichotomy i j with q | q | q
    · exact (hp i j (by simpa using hi) (by simpa using hj) q (by rw [List.getElem_map, List.getElem_map]; exact e)).elim
    · exact q
    · exact (hp j i (by simpa using hj) (by simpa using hi) q (by rw [List.getElem_map, List.getElem_map]; exact e.symm)).elim
  refine nok_f (by simp) (nok_bd (S := fun out => out.length < 10000 ∧ out.Nodup ∧ ∀ f, f ∈ out ↔ FS l f) ?_ ?_)
  · refine nok_lp (fun q => q.2.Nodup ∧ (∀ i ∈ q.2, i < b6.length) ∧ q.1 = q.2.map fun i : Nat => (gt b6 (i : Int)).1) (fun q => b6.length - q.2.length) ⟨List.nodup_nil, fun i hi => by simp at hi, rfl⟩ (by simp only; omega) ?_
    rintro ⟨out, sn⟩ ⟨s1, s2, s3⟩
    dsimp only at s1 s2 s3
    subst s3
    have hsl := seen_len s1 s2
    unfold P_rules_Faults_L15
    dsimp only
    refine nok_nx (fun hall => nok_ret ⟨by rw [List.length_map]; omega, ?_, fun f => ?_⟩) fun i hi hni => ?_
    · refine List.pairwise_map.2 (List.Pairwise.imp_of_mem ?_ s1)
      intro a b ha hb hab e
      exact hab (inj a b (s2 a ha) (s2 b hb) e)
    · rw [← hm]
      constructor
      · intro h
        obtain ⟨i, hi, rfl⟩ := List.mem_map.1 h
        exact mhas_at (s2 i hi)
      · intro h
        obtain ⟨i, hi, rfl⟩ := mhas_idx h
        exact List.mem_map.2 ⟨i, hall i hi, rfl⟩
    · obtain ⟨a1, a2⟩ := seen_add s1 s2 hi hni
      exact nok_lv (nok_lv (nok_ck (by simp only [apOk, List.length_append, List.length_map, List.length_singleton]; omega) (nok_ret ⟨⟨a1, a2, by simp⟩, seen_dec s1 s2 hi hni⟩)))
  · rintro out ⟨o1, o2, o3⟩
    exact nok_ck (by omega) (nok_lv (nok_ret ⟨rfl, FR.sort o2 o3⟩))
/-! the closed check -/
def ruleL : T_rules_Layout := T_rules_Layout.mk 5 3 1 1 [] [] ([(T_rules_Pin.mk 0 1 1 false 0), (T_rules_Pin.mk 0 3 1 false 0)] : List T_rules_Pin) []
theorem ruleL_r : LayR ruleL := by
  refine ⟨by decide, by decide, by decide, by decide, by decide, All.nil, by decide, All.nil, by decide, ?_, by decide, All.nil⟩
  rw [All.mem]
  intro p hp
  simp only [ruleL, List.mem_cons, List.not_mem_nil, or_false] at hp
  rcases hp with rfl | rfl <;> exact ⟨by decide, by decide, by decide, by decide, by decide⟩
theorem ruleL_sh : shps ruleL = [⟨0, [⟨0, 1, 1⟩], false, 0⟩, ⟨0, [⟨0, 3, 1⟩], false, 1⟩] := rfl
theorem ruleL_cov {n : Int} {p : T_rules_Spot} (h : CovG (shps ruleL) allS n p) : n = 0 ∧ (p = ⟨0, 1, 1⟩ ∨ p = ⟨0, 3, 1⟩) := by
  obtain ⟨s, hs, rfl, hp⟩ := h
  rw [ruleL_sh] at hs
  simp only [List.mem_cons, List.not_mem_nil, or_false] at hs
  rcases hs with rfl | rfl
  · simp only [allS, List.mem_singleton] at hp; exact ⟨rfl, .inl hp⟩
  · simp only [allS, List.mem_singleton] at hp; exact ⟨rfl, .inr hp⟩
theorem ruleL_pins {p : T_rules_Pin} (h : p ∈ ruleL.Pins) : p = ⟨0, 1, 1, false, 0⟩ ∨ p = ⟨0, 3, 1, false, 0⟩ := by
  simpa only [ruleL, List.mem_cons, List.not_mem_nil, or_false] using h
theorem ruleL_FS (f : T_rules_Fault) : FS ruleL f ↔ f = ⟨5, 0, 0, ⟨0, 3, 1⟩⟩ := by
  constructor
  · rintro (h | h | h | h | h | h | h)
    · obtain ⟨n, m, p, hne, h1, h2, _⟩ := h
      exact absurd ((ruleL_cov h1).1.trans (ruleL_cov h2).1.symm) hne
    · obtain ⟨n, p, _, ⟨w, hw, _⟩, _⟩ := h
      simp [ruleL] at hw
    · obtain ⟨v, hv, _⟩ := h
      simp [ruleL] at hv
    · obtain ⟨ly, n, p, hly, _⟩ := h
      simp only [ruleL] at hly; omega
    · obtain ⟨p, hp, q, hq, hc, rfl⟩ := h
      have hn : p.Net = 0 := by rcases ruleL_pins hp with rfl | rfl <;> rfl
      rw [hn] at hq hc ⊢
      have eq : q = ⟨0, 1, 1, false, 0⟩ := by
        have : ruleL.Pins.find? (fun q => decide (q.Net = 0)) = some ⟨0, 1, 1, false, 0⟩ := rfl
        rw [this] at hq; exact (Option.some.inj hq).symm
      subst eq
      rcases ruleL_pins hp with rfl | rfl
      · exact absurd (.refl _) hc
      · rfl
    · obtain ⟨n, m, h1, _, h2, _⟩ := h
      obtain ⟨rfl, hm⟩ := ruleL_cov h1
      rcases hm with rfl | rfl
      · exact absurd (.refl _) (h2 ⟨0, 1, 1, false, 0⟩ (by simp [ruleL]) rfl)
      · exact absurd (.refl _) (h2 ⟨0, 3, 1, false, 0⟩ (by simp [ruleL]) rfl)
    · obtain ⟨_, _, p, hp, hg, _⟩ := h
      rcases ruleL_pins hp with rfl | rfl
      · exact absurd hg.2 (by decide)
      · exact absurd hg.2 (by decide)
  · rintro rfl
    refine .inr (.inr (.inr (.inr (.inl ⟨⟨0, 3, 1, false, 0⟩, by simp [ruleL], ⟨0, 1, 1, false, 0⟩, rfl, fun hc => ?_, rfl⟩))))
    have := hc.closed (S := fun p => p = ⟨0, 1, 1⟩) (fun {p q} hp ha => ?_) rfl
    · exact absurd this (by decide)
    · obtain ⟨s, hs, _, h1, h2⟩ := ha
      subst hp
      rw [ruleL_sh] at hs
      simp only [List.mem_cons, List.not_mem_nil, or_false] at hs
      rcases hs with rfl | rfl
      · simpa [allS] using h2
      · simp [allS] at h1
theorem ruled_ok : NOk P_maskkeep4_ruled (fun b => b = true) := by
  unfold P_maskkeep4_ruled
  refine nok_bd (Faults_ok ruleL_r) ?_
  rintro ⟨r, _⟩ ⟨rfl, hr⟩
  have e : r = [⟨5, 0, 0, ⟨0, 3, 1⟩⟩] := FR.eq (F := fun f => f = ⟨5, 0, 0, ⟨0, 3, 1⟩⟩) (hr.congr ruleL_FS) ⟨List.pairwise_singleton _ _, by simp, fun f => by simp⟩
  subst e
  exact nok_lv (nok_ck (fun _ => ⟨by simp, by simp⟩) (nok_lv (nok_ret rfl)))
theorem FEqual_ok (a : List T_rules_Fault) (ha : a.length < 10000) : Ok (P_slices_Equal_rules_Fault_rules_Fault a a) (fun b => b = true) := by
  unfold P_slices_Equal_rules_Fault_rules_Fault
  refine ok_f (by simp) (ok_bs1 (R := fun _ => True) ?_ fun _ _ => ok_some rfl)
  refine ok_lp (fun y => 0 ≤ y) (fun y => ((a.length : Int) - y).toNat) (by omega) (by omega) ?_
  intro y y0
  unfold P_slices_Equal_rules_Fault_rules_Fault_L4
  exact ok_ite (fun hlt => ok_ck ⟨y0, hlt⟩ (ok_lv (ok_ck ⟨y0, hlt⟩ (ok_lv (ok_lv (ok_f (by simp) (ok_ar (by unfold I64; omega) (ok_some ⟨by omega, by omega⟩)))))))) (fun hge => ok_some ⟨(), rfl, trivial⟩)
theorem FR.lt {l : T_rules_Layout} (hl : LayR l) {r : List T_rules_Fault} (h : FR (FS l) r) : r.length < 10000 := few hl h.2.1 fun f hf => (h.2.2 f).1 hf
end Go.Proofs.Ytnnmbmgnpdcefaa.X
namespace Go.Proofs.Ytnnmbmgnpdcefaa.X
open Go Go.RowKit
set_option linter.unusedVariables false
set_option linter.unusedSimpArgs false
set_option linter.unusedSectionVars false
/-- A net covers the same, joined alike, in both. -/
structure SameN (l l' : T_rules_Layout) (n : Int) : Prop where
  cov : ∀ p, CovG (shps l') allS n p ↔ CovG (shps l) allS n p
  all : ∀ p q, Conn (Adj (shps l') allS n) p q ↔ Conn (Adj (shps l) allS n) p q
  on : ∀ v p q, Conn (Adj (shps l') (onL v) n) p q ↔ Conn (Adj (shps l) (onL v) n) p q
  up : ∀ v p q, Conn (Adj (shps l') (upL v) n) p q ↔ Conn (Adj (shps l) (upL v) n) p q
  wire : ∀ v x, WireC l' v n x ↔ WireC l v n x
theorem covL {sh : List T_rules_shape} {v n : Int} {p : T_rules_Spot} : CovG sh (onL v) n p ↔ CovG sh allS n p ∧ p.Layer = v := by
  constructor
  · rintro ⟨s, hs, hn, hp⟩
    have := List.mem_filter.1 hp
    exact ⟨⟨s, hs, hn, this.1⟩, by simpa using this.2⟩
  · rintro ⟨⟨s, hs, hn, hp⟩, h⟩
    exact ⟨s, hs, hn, List.mem_filter.2 ⟨hp, by simpa using h⟩⟩
structure Rest (P : Int → Prop) [DecidablePred P] (l l' : T_rules_Layout) : Prop where
  same : ∀ n, P n → SameN l l' n
  own : ∀ n p, CovG (shps l') allS n p → P n
  walls : ∀ w, w ∈ l'.Walls ↔ w ∈ l.Walls
  vias : ∀ v, v ∈ l'.Vias ↔ v ∈ l.Vias ∧ P v.Net
  pins : l'.Pins = l.Pins.filter (fun p => decide (P p.Net))
  ly : l'.Layers = l.Layers
/-- A fault of nets that stay. -/
def Keeps (P : Int → Prop) (f : T_rules_Fault) : Prop := P f.Net ∧ (f.Kind = 1 ∨ f.Kind = 3 → P f.Other)
section
variable {P : Int → Prop} [DecidablePred P] {l l' : T_rules_Layout}
theorem p_mm {n m : Int} : (P (min n m) ∧ P (max n m)) ↔ P n ∧ P m := by
  rcases Int.le_total n m with q | q
  · rw [Int.min_eq_left q, Int.max_eq_right q]
  · rw [Int.min_eq_right q, Int.max_eq_left q]; exact And.comm
theorem Rest.pin (h : Rest P l l') (p : T_rules_Pin) : p ∈ l'.Pins ↔ p ∈ l.Pins ∧ P p.Net := by
  rw [h.pins, List.mem_filter, decide_eq_true_eq]
theorem Rest.f1 (h : Rest P l l') (f : T_rules_Fault) : F1 (shps l') f ↔ F1 (shps l) f ∧ Keeps P f := by
  constructor
  · rintro ⟨n, m, p, hne, h1, h2, rfl⟩
    have pn := h.own n p h1
    have pm := h.own m p h2
    have := p_mm.2 ⟨pn, pm⟩
    exact ⟨⟨n, m, p, hne, ((h.same n pn).cov p).1 h1, ((h.same m pm).cov p).1 h2, rfl⟩, this.1, fun _ => this.2⟩
  · rintro ⟨⟨n, m, p, hne, h1, h2, rfl⟩, k1, k2⟩
    obtain ⟨pn, pm⟩ := p_mm.1 ⟨k1, k2 (.inl rfl)⟩
    exact ⟨n, m, p, hne, ((h.same n pn).cov p).2 h1, ((h.same m pm).cov p).2 h2, rfl⟩
theorem Rest.f2 (h : Rest P l l') (f : T_rules_Fault) : F2 l' f ↔ F2 l f ∧ Keeps P f := by
  constructor
  · rintro ⟨n, p, h1, ⟨w, hw, h2⟩, rfl⟩
    have pn := h.own n p h1
    exact ⟨⟨n, p, ((h.same n pn).cov p).1 h1, ⟨w, (h.walls w).1 hw, h2⟩, rfl⟩, pn, fun q => by simp at q⟩
  · rintro ⟨⟨n, p, h1, ⟨w, hw, h2⟩, rfl⟩, pn, _⟩
    exact ⟨n, p, ((h.same n pn).cov p).2 h1, ⟨w, (h.walls w).2 hw, h2⟩, rfl⟩
theorem Rest.f3 (h : Rest P l l') (f : T_rules_Fault) : F3 l' f ↔ F3 l f ∧ Keeps P f := by
  constructor
  · rintro ⟨v, hv, u, hu, hb, rfl⟩
    obtain ⟨hv, pv⟩ := (h.vias v).1 hv
    obtain ⟨hu, pu⟩ := (h.vias u).1 hu
    have := p_mm.2 ⟨pv, pu⟩
    exact ⟨⟨v, hv, u, hu, hb, rfl⟩, this.1, fun _ => this.2⟩
  · rintro ⟨⟨v, hv, u, hu, hb, rfl⟩, k1, k2⟩
    obtain ⟨pv, pu⟩ := p_mm.1 ⟨k1, k2 (.inr rfl)⟩
    exact ⟨v, (h.vias v).2 ⟨hv, pv⟩, u, (h.vias u).2 ⟨hu, pu⟩, hb, rfl⟩
theorem Rest.f4 (h : Rest P l l') (f : T_rules_Fault) : F4 l' f ↔ F4 l f ∧ Keeps P f := by
  constructor
  · rintro ⟨v, n, p, hv, h1, h2, rfl⟩
    rw [covL] at h1
    have pn := h.own n p h1.1
    exact ⟨⟨v, n, p, by rw [← h.ly]; exact hv, covL.2 ⟨((h.same n pn).cov p).1 h1.1, h1.2⟩, fun q hq => h2 q (((h.same n pn).on v p q).2 hq), rfl⟩, pn, fun q => by simp at q⟩
  · rintro ⟨⟨v, n, p, hv, h1, h2, rfl⟩, pn, _⟩
    rw [covL] at h1
    exact ⟨v, n, p, by rw [h.ly]; exact hv, covL.2 ⟨((h.same n pn).cov p).2 h1.1, h1.2⟩, fun q hq => h2 q (((h.same n pn).on v p q).1 hq), rfl⟩
theorem Rest.f5 (h : Rest P l l') (f : T_rules_Fault) : F5 l' f ↔ F5 l f ∧ Keeps P f := by
  have hfind : ∀ n, P n → l'.Pins.find? (fun q => decide (q.Net = n)) = l.Pins.find? (fun q => decide (q.Net = n)) := fun n pn => by
    rw [h.pins, List.find?_filter]
    congr 1
    funext a
    by_cases e : a.Net = n
    · subst e; simp [pn]
    · simp [e]
  constructor
  · rintro ⟨p, hp, q, hq, hc, rfl⟩
    obtain ⟨hp, pn⟩ := (h.pin p).1 hp
    rw [hfind _ pn] at hq
    exact ⟨⟨p, hp, q, hq, fun c => hc (((h.same _ pn).all _ _).2 c), rfl⟩, pn, fun q => by simp at q⟩
  · rintro ⟨⟨p, hp, q, hq, hc, rfl⟩, pn, _⟩
    exact ⟨p, (h.pin p).2 ⟨hp, pn⟩, q, by rw [hfind _ pn]; exact hq, fun c => hc (((h.same _ pn).all _ _).1 c), rfl⟩
theorem Rest.f6 (h : Rest P l l') (f : T_rules_Fault) : F6 l' f ↔ F6 l f ∧ Keeps P f := by
  constructor
  · rintro ⟨n, m, h1, h2, h3, rfl⟩
    have pn := h.own n m h1
    exact ⟨⟨n, m, ((h.same n pn).cov m).1 h1, fun q hq => h2 q (((h.same n pn).all m q).2 hq), fun p hp e hc => h3 p ((h.pin p).2 ⟨hp, by rw [e]; exact pn⟩) e (((h.same n pn).all _ _).2 hc), rfl⟩, pn, fun q => by simp at q⟩
  · rintro ⟨⟨n, m, h1, h2, h3, rfl⟩, pn, _⟩
    exact ⟨n, m, ((h.same n pn).cov m).2 h1, fun q hq => h2 q (((h.same n pn).all m q).1 hq), fun p hp e hc => h3 p ((h.pin p).1 hp).1 e (((h.same n pn).all _ _).1 hc), rfl⟩
open Classical in
theorem gsum_filter {C : T_rules_Spot → Prop} {n : Int} (pn : P n) : ∀ ps : List T_rules_Pin, gsum C n (ps.filter fun p => decide (P p.Net)) = gsum C n ps
  | [] => rfl
  | p :: ps => by
    by_cases q : P p.Net
    · rw [List.filter_cons_of_pos (by simpa using q), gsum, gsum, gsum_filter pn ps]
    · rw [List.filter_cons_of_neg (by simpa using q), gsum, gsum_filter pn ps, if_neg fun h => q (by rw [h.2.1]; exact pn)]; omega
theorem Rest.f7 (h : Rest P l l') (f : T_rules_Fault) : F7 l' f ↔ F7 l f ∧ Keeps P f := by
  have hC : ∀ v n, P n → ∀ s, Conn (Adj (shps l') (upL v) n) s = Conn (Adj (shps l) (upL v) n) s := fun v n pn s => by
    funext q; exact propext ((h.same n pn).up v s q)
  constructor
  · rintro ⟨v, hv, p, hp, hg, h1, h2, ⟨L, hL, h3, h4⟩, rfl⟩
    obtain ⟨hp, pn⟩ := (h.pin p).1 hp
    rw [hC v _ pn] at h1 h2 h3 h4
    rw [h.pins, gsum_filter pn] at h4
    refine ⟨⟨v, by rw [← h.ly]; exact hv, p, hp, hg, fun q hq hgq e hc => h1 q ((h.pin q).2 ⟨hq, by rw [e]; exact pn⟩) hgq e hc, fun q hq hd e hc => h2 q ((h.pin q).2 ⟨hq, by rw [e]; exact pn⟩) hd e hc, ⟨L, hL, fun x => ?_, h4⟩, rfl⟩, pn, fun q => by simp at q⟩
    rw [h3, (h.same _ pn).wire]
  · rintro ⟨⟨v, hv, p, hp, hg, h1, h2, ⟨L, hL, h3, h4⟩, rfl⟩, pn, _⟩
    dsimp only at pn
    refine ⟨v, by rw [h.ly]; exact hv, p, (h.pin p).2 ⟨hp, pn⟩, hg, ?_⟩
    rw [hC v _ pn]
    refine ⟨fun q hq hgq e hc => h1 q ((h.pin q).1 hq).1 hgq e hc, fun q hq hd e hc => h2 q ((h.pin q).1 hq).1 hd e hc, ⟨L, hL, fun x => ?_, ?_⟩, rfl⟩
    · rw [h3, (h.same _ pn).wire]
    · rw [h.pins, gsum_filter pn]; exact h4
theorem Rest.FS (h : Rest P l l') (f : T_rules_Fault) : FS l' f ↔ X.FS l f ∧ Keeps P f := by
  unfold X.FS
  rw [h.f1, h.f2, h.f3, h.f4, h.f5, h.f6, h.f7]
  constructor
  · rintro (a | a | a | a | a | a | a)
    · exact ⟨.inl a.1, a.2⟩
    · exact ⟨.inr (.inl a.1), a.2⟩
    · exact ⟨.inr (.inr (.inl a.1)), a.2⟩
    · exact ⟨.inr (.inr (.inr (.inl a.1))), a.2⟩
    · exact ⟨.inr (.inr (.inr (.inr (.inl a.1)))), a.2⟩
    · exact ⟨.inr (.inr (.inr (.inr (.inr (.inl a.1))))), a.2⟩
    · exact ⟨.inr (.inr (.inr (.inr (.inr (.inr a.1))))), a.2⟩
  · rintro ⟨a | a | a | a | a | a | a, b⟩
    · exact .inl ⟨a, b⟩
    · exact .inr (.inl ⟨a, b⟩)
    · exact .inr (.inr (.inl ⟨a, b⟩))
    · exact .inr (.inr (.inr (.inl ⟨a, b⟩)))
    · exact .inr (.inr (.inr (.inr (.inl ⟨a, b⟩))))
    · exact .inr (.inr (.inr (.inr (.inr (.inl ⟨a, b⟩)))))
    · exact .inr (.inr (.inr (.inr (.inr (.inr ⟨a, b⟩)))))
end
section
variable {l l' : T_rules_Layout}
end
/-! exchanges -/
theorem FEq_gd {a b : List T_rules_Fault} (h : a = b) (ha : a.length < 10000) : Ok (gd true (P_slices_Equal_rules_Fault_rules_Fault a b)) (fun r => r = true) := by
  subst h; exact FEqual_ok a ha
end Go.Proofs.Ytnnmbmgnpdcefaa.X
namespace Go.Proofs.Ytnnmbmgnpdcefaa.X
open Go Go.RowKit
set_option linter.unusedVariables false
set_option linter.unusedSimpArgs false
set_option linter.unusedSectionVars false
def keepW (k : Int) (w : T_rules_Wire) : Bool := decide (w.Net ≠ k)
def keepV (k : Int) (w : T_rules_Via) : Bool := decide (w.Net ≠ k)
def keepP (k : Int) (w : T_rules_Pin) : Bool := decide (w.Net ≠ k)
def keepF (k : Int) (f : T_rules_Fault) : Bool := !((decide (f.Net = k)) || (((decide (f.Kind = 1)) || (decide (f.Kind = 3))) && decide (f.Other = k)))
theorem cbWire (k : Int) (w : T_rules_Wire) : Ok (P_detail_Without_1 w [k]) (fun r => r = !keepW k w) := by
  unfold P_detail_Without_1
  refine ok_bd (contains_ok (by simp) _) ?_
  rintro _ rfl
  exact ok_some (by unfold keepW; by_cases e : w.Net = k <;> simp [e])
theorem cbVia (k : Int) (w : T_rules_Via) : Ok (P_detail_Without_2 w [k]) (fun r => r = !keepV k w) := by
  unfold P_detail_Without_2
  refine ok_bd (contains_ok (by simp) _) ?_
  rintro _ rfl
  exact ok_some (by unfold keepV; by_cases e : w.Net = k <;> simp [e])
theorem cbFault (k : Int) (f : T_rules_Fault) : Ok (P_maskkeep4_RulesApart_2 f k) (fun r => r = !keepF k f) := by
  unfold P_maskkeep4_RulesApart_2
  exact ok_lv (ok_lv (ok_lv (ok_some (by unfold keepF; rw [Bool.not_not]))))
theorem cloneWire_ok {s : List T_rules_Wire} (hs : s.length ≤ 10000) : Ok (P_slices_Clone_rules_Wire_rules_Wire s) (fun r => r = s) := by
  unfold P_slices_Clone_rules_Wire_rules_Wire
  exact ok_lv (ok_ck (by simp only [List.nil_append, apOk]; omega) (ok_some rfl))
theorem idxWire_ok {s : List T_rules_Wire} (hs : s.length ≤ 10000) (k : Int) : Ok (P_slices_IndexFunc_rules_Wire_rules_Wire s [k]) (fun r => IdxR (keepW k) s r) := by
  unfold P_slices_IndexFunc_rules_Wire_rules_Wire
  refine ok_bs (R := fun o => match o with | .inl _ => ∀ x ∈ s, keepW k x = true | .inr r => IdxR (keepW k) s r) ?_ (fun _ h => ok_some (.inl ⟨rfl, h⟩)) (fun r h => ok_some h)
  refine ok_lp (fun y => 0 ≤ y ∧ ∀ i, 0 ≤ i → i < y → keepW k (gt s i) = true) (fun y => ((s.length : Int) - y).toNat) ⟨by omega, fun i a b => by omega⟩ (by omega) ?_
  rintro y ⟨y0, hy⟩
  unfold P_slices_IndexFunc_rules_Wire_rules_Wire_L2
  refine ok_ite (fun hlt => ok_ck ⟨y0, hlt⟩ (ok_lv ?_)) (fun hge => ok_some (idx_all (y := y) (by omega) hy))
  refine ok_bd (cbWire k _) ?_
  rintro _ rfl
  refine ok_ite (fun hne => ok_some (.inr ⟨⟨y0, hlt⟩, by simpa using hne, hy⟩)) (fun he => ok_ar (by unfold I64; omega) (ok_some ⟨⟨by omega, fun i a b => ?_⟩, by omega⟩))
  by_cases q : i = y
  · subst q; exact (by simpa using he)
  · exact hy i a (by omega)
theorem delWire_ok {s : List T_rules_Wire} (hs : s.length ≤ 10000) (k : Int) : Ok (P_slices_DeleteFunc_rules_Wire_rules_Wire s [k]) (fun r => r = s.filter (keepW k)) := by
  unfold P_slices_DeleteFunc_rules_Wire_rules_Wire
  refine ok_bd (idxWire_ok hs k) fun r hr => ok_ite (fun he => ok_some ?_) (fun hne => ?_)
  · rcases hr with ⟨_, h⟩ | ⟨⟨h, _⟩, _⟩
    · exact (List.filter_eq_self.2 h).symm
    · omega
  · rcases hr with ⟨h, _⟩ | ⟨hb, h1, h2⟩
    · exact absurd h hne
    · have hst := DelI.start (keep := keepW k) hb h1 h2
      obtain ⟨b0, b1⟩ := hb
      refine ok_ar (by unfold I64; omega) (ok_bd (R := fun q => DelI (keepW k) s q.1 q.2 s.length) ?_ ?_)
      · refine ok_lp (fun q => DelI (keepW k) s q.1 q.2.1 q.2.2) (fun q => ((s.length : Int) - q.2.2).toNat) hst (by dsimp only; omega) ?_
        rintro ⟨z, i, j⟩ hI
        dsimp only at hI
        have hl := hI.len
        have i0 := hI.i0
        have ij := hI.ij
        unfold P_slices_DeleteFunc_rules_Wire_rules_Wire_L5
        dsimp only
        refine ok_ite (fun hlt => ok_ck ⟨by omega, by omega⟩ (ok_lv ?_)) (fun hge => ok_some ?_)
        · rw [hI.rest j (Int.le_refl _) hlt]
          refine ok_bd (cbWire k _) ?_
          rintro _ rfl
          refine ok_bd (R := fun q => DelI (keepW k) s q.1 q.2 (j + 1)) (ok_ite (fun hk => ?_) (fun hk => ok_some ?_)) fun q hq => ok_ar (by unfold I64; omega) (ok_some ⟨hq, by dsimp only; omega⟩)
          · exact ok_ck ⟨by omega, by omega⟩ (ok_lv (ok_ar (by unfold I64; omega) (ok_some (hI.kept hlt (by simpa using hk)))))
          · exact hI.drop hlt (by simpa using hk)
        · have : j = s.length := by have := hI.jn; omega
          subst this; exact hI
      · rintro ⟨z, i⟩ hI
        dsimp only at hI
        have hl := hI.len
        have i0 := hI.i0
        have ij := hI.ij
        refine ok_ck ⟨i0, by omega⟩ (ok_lv (ok_ck ⟨by omega, i0, ?_⟩ (ok_lv (ok_some (hI.end rfl _)))))
        simp only [List.length_append, List.length_take, List.length_replicate]; omega
theorem cloneVia_ok {s : List T_rules_Via} (hs : s.length ≤ 10000) : Ok (P_slices_Clone_rules_Via_rules_Via s) (fun r => r = s) := by
  unfold P_slices_Clone_rules_Via_rules_Via
  exact ok_lv (ok_ck (by simp only [List.nil_append, apOk]; omega) (ok_some rfl))
theorem idxVia_ok {s : List T_rules_Via} (hs : s.length ≤ 10000) (k : Int) : Ok (P_slices_IndexFunc_rules_Via_rules_Via s [k]) (fun r => IdxR (keepV k) s r) := by
  unfold P_slices_IndexFunc_rules_Via_rules_Via
  refine ok_bs (R := fun o => match o with | .inl _ => ∀ x ∈ s, keepV k x = true | .inr r => IdxR (keepV k) s r) ?_ (fun _ h => ok_some (.inl ⟨rfl, h⟩)) (fun r h => ok_some h)
  refine ok_lp (fun y => 0 ≤ y ∧ ∀ i, 0 ≤ i → i < y → keepV k (gt s i) = true) (fun y => ((s.length : Int) - y).toNat) ⟨by omega, fun i a b => by omega⟩ (by omega) ?_
  rintro y ⟨y0, hy⟩
  unfold P_slices_IndexFunc_rules_Via_rules_Via_L2
  refine ok_ite (fun hlt => ok_ck ⟨y0, hlt⟩ (ok_lv ?_)) (fun hge => ok_some (idx_all (y := y) (by omega) hy))
  refine ok_bd (cbVia k _) ?_
  rintro _ rfl
  refine ok_ite (fun hne => ok_some (.inr ⟨⟨y0, hlt⟩, by simpa using hne, hy⟩)) (fun he => ok_ar (by unfold I64; omega) (ok_some ⟨⟨by omega, fun i a b => ?_⟩, by omega⟩))
  by_cases q : i = y
  · subst q; exact (by simpa using he)
  · exact hy i a (by omega)
theorem delVia_ok {s : List T_rules_Via} (hs : s.length ≤ 10000) (k : Int) : Ok (P_slices_DeleteFunc_rules_Via_rules_Via s [k]) (fun r => r = s.filter (keepV k)) := by
  unfold P_slices_DeleteFunc_rules_Via_rules_Via
  refine ok_bd (idxVia_ok hs k) fun r hr => ok_ite (fun he => ok_some ?_) (fun hne => ?_)
  · rcases hr with ⟨_, h⟩ | ⟨⟨h, _⟩, _⟩
    · exact (List.filter_eq_self.2 h).symm
    · omega
  · rcases hr with ⟨h, _⟩ | ⟨hb, h1, h2⟩
    · exact absurd h hne
    · have hst := DelI.start (keep := keepV k) hb h1 h2
      obtain ⟨b0, b1⟩ := hb
      refine ok_ar (by unfold I64; omega) (ok_bd (R := fun q => DelI (keepV k) s q.1 q.2 s.length) ?_ ?_)
      · refine ok_lp (fun q => DelI (keepV k) s q.1 q.2.1 q.2.2) (fun q => ((s.length : Int) - q.2.2).toNat) hst (by dsimp only; omega) ?_
        rintro ⟨z, i, j⟩ hI
        dsimp only at hI
        have hl := hI.len
        have i0 := hI.i0
        have ij := hI.ij
        unfold P_slices_DeleteFunc_rules_Via_rules_Via_L5
        dsimp only
        refine ok_ite (fun hlt => ok_ck ⟨by omega, by omega⟩ (ok_lv ?_)) (fun hge => ok_some ?_)
        · rw [hI.rest j (Int.le_refl _) hlt]
          refine ok_bd (cbVia k _) ?_
          rintro _ rfl
          refine ok_bd (R := fun q => DelI (keepV k) s q.1 q.2 (j + 1)) (ok_ite (fun hk => ?_) (fun hk => ok_some ?_)) fun q hq => ok_ar (by unfold I64; omega) (ok_some ⟨hq, by dsimp only; omega⟩)
          · exact ok_ck ⟨by omega, by omega⟩ (ok_lv (ok_ar (by unfold I64; omega) (ok_some (hI.kept hlt (by simpa using hk)))))
          · exact hI.drop hlt (by simpa using hk)
        · have : j = s.length := by have := hI.jn; omega
          subst this; exact hI
      · rintro ⟨z, i⟩ hI
        dsimp only at hI
        have hl := hI.len
        have i0 := hI.i0
        have ij := hI.ij
        refine ok_ck ⟨i0, by omega⟩ (ok_lv (ok_ck ⟨by omega, i0, ?_⟩ (ok_lv (ok_some (hI.end rfl _)))))
        simp only [List.length_append, List.length_take, List.length_replicate]; omega
theorem clonePin_ok {s : List T_rules_Pin} (hs : s.length ≤ 10000) : Ok (P_slices_Clone_rules_Pin_rules_Pin s) (fun r => r = s) := by
  unfold P_slices_Clone_rules_Pin_rules_Pin
  exact ok_lv (ok_ck (by simp only [List.nil_append, apOk]; omega) (ok_some rfl))
theorem idxPin_ok {s : List T_rules_Pin} (hs : s.length ≤ 10000) (k : Int) : Ok (P_slices_IndexFunc_rules_Pin_rules_Pin s k) (fun r => IdxR (keepP k) s r) := by
  unfold P_slices_IndexFunc_rules_Pin_rules_Pin
  refine ok_bs (R := fun o => match o with | .inl _ => ∀ x ∈ s, keepP k x = true | .inr r => IdxR (keepP k) s r) ?_ (fun _ h => ok_some (.inl ⟨rfl, h⟩)) (fun r h => ok_some h)
  refine ok_lp (fun y => 0 ≤ y ∧ ∀ i, 0 ≤ i → i < y → keepP k (gt s i) = true) (fun y => ((s.length : Int) - y).toNat) ⟨by omega, fun i a b => by omega⟩ (by omega) ?_
  rintro y ⟨y0, hy⟩
  unfold P_slices_IndexFunc_rules_Pin_rules_Pin_L2
  refine ok_ite (fun hlt => ok_ck ⟨y0, hlt⟩ (ok_lv ?_)) (fun hge => ok_some (idx_all (y := y) (by omega) hy))
  refine ok_bd (R := fun _ => True) (by unfold P_maskkeep4_RulesApart_1; exact ok_some trivial) fun _ _ => ?_
  refine ok_ite (fun hne => ok_some (.inr ⟨⟨y0, hlt⟩, by simpa [keepP] using hne, hy⟩)) (fun he => ok_ar (by unfold I64; omega) (ok_some ⟨⟨by omega, fun i a b => ?_⟩, by omega⟩))
  by_cases q : i = y
  · subst q; exact (by simpa [keepP] using he)
  · exact hy i a (by omega)
theorem delPin_ok {s : List T_rules_Pin} (hs : s.length ≤ 10000) (k : Int) : Ok (P_slices_DeleteFunc_rules_Pin_rules_Pin s k) (fun r => r = s.filter (keepP k)) := by
  unfold P_slices_DeleteFunc_rules_Pin_rules_Pin
  refine ok_bd (idxPin_ok hs k) fun r hr => ok_ite (fun he => ok_some ?_) (fun hne => ?_)
  · rcases hr with ⟨_, h⟩ | ⟨⟨h, _⟩, _⟩
    · exact (List.filter_eq_self.2 h).symm
    · omega
  · rcases hr with ⟨h, _⟩ | ⟨hb, h1, h2⟩
    · exact absurd h hne
    · have hst := DelI.start (keep := keepP k) hb h1 h2
      obtain ⟨b0, b1⟩ := hb
      refine ok_ar (by unfold I64; omega) (ok_bd (R := fun q => DelI (keepP k) s q.1 q.2 s.length) ?_ ?_)
      · refine ok_lp (fun q => DelI (keepP k) s q.1 q.2.1 q.2.2) (fun q => ((s.length : Int) - q.2.2).toNat) hst (by dsimp only; omega) ?_
        rintro ⟨z, i, j⟩ hI
        dsimp only at hI
        have hl := hI.len
        have i0 := hI.i0
        have ij := hI.ij
        unfold P_slices_DeleteFunc_rules_Pin_rules_Pin_L5
        dsimp only
        refine ok_ite (fun hlt => ok_ck ⟨by omega, by omega⟩ (ok_lv ?_)) (fun hge => ok_some ?_)
        · rw [hI.rest j (Int.le_refl _) hlt]
          refine ok_bd (R := fun _ => True) (by unfold P_maskkeep4_RulesApart_1; exact ok_some trivial) fun _ _ => ?_
          refine ok_bd (R := fun q => DelI (keepP k) s q.1 q.2 (j + 1)) (ok_ite (fun hk => ?_) (fun hk => ok_some ?_)) fun q hq => ok_ar (by unfold I64; omega) (ok_some ⟨hq, by dsimp only; omega⟩)
          · exact ok_ck ⟨by omega, by omega⟩ (ok_lv (ok_ar (by unfold I64; omega) (ok_some (hI.kept hlt (by simpa [keepP] using hk)))))
          · exact hI.drop hlt (by simpa [keepP] using hk)
        · have : j = s.length := by have := hI.jn; omega
          subst this; exact hI
      · rintro ⟨z, i⟩ hI
        dsimp only at hI
        have hl := hI.len
        have i0 := hI.i0
        have ij := hI.ij
        refine ok_ck ⟨i0, by omega⟩ (ok_lv (ok_ck ⟨by omega, i0, ?_⟩ (ok_lv (ok_some (hI.end rfl _)))))
        simp only [List.length_append, List.length_take, List.length_replicate]; omega
theorem cloneFault_ok {s : List T_rules_Fault} (hs : s.length ≤ 10000) : Ok (P_slices_Clone_rules_Fault_rules_Fault s) (fun r => r = s) := by
  unfold P_slices_Clone_rules_Fault_rules_Fault
  exact ok_lv (ok_ck (by simp only [List.nil_append, apOk]; omega) (ok_some rfl))
theorem idxFault_ok {s : List T_rules_Fault} (hs : s.length ≤ 10000) (k : Int) : Ok (P_slices_IndexFunc_rules_Fault_rules_Fault s k) (fun r => IdxR (keepF k) s r) := by
  unfold P_slices_IndexFunc_rules_Fault_rules_Fault
  refine ok_bs (R := fun o => match o with | .inl _ => ∀ x ∈ s, keepF k x = true | .inr r => IdxR (keepF k) s r) ?_ (fun _ h => ok_some (.inl ⟨rfl, h⟩)) (fun r h => ok_some h)
  refine ok_lp (fun y => 0 ≤ y ∧ ∀ i, 0 ≤ i → i < y → keepF k (gt s i) = true) (fun y => ((s.length : Int) - y).toNat) ⟨by omega, fun i a b => by omega⟩ (by omega) ?_
  rintro y ⟨y0, hy⟩
  unfold P_slices_IndexFunc_rules_Fault_rules_Fault_L2
  refine ok_ite (fun hlt => ok_ck ⟨y0, hlt⟩ (ok_lv ?_)) (fun hge => ok_some (idx_all (y := y) (by omega) hy))
  refine ok_bd (cbFault k _) ?_
  rintro _ rfl
  refine ok_ite (fun hne => ok_some (.inr ⟨⟨y0, hlt⟩, by simpa using hne, hy⟩)) (fun he => ok_ar (by unfold I64; omega) (ok_some ⟨⟨by omega, fun i a b => ?_⟩, by omega⟩))
  by_cases q : i = y
  · subst q; exact (by simpa using he)
  · exact hy i a (by omega)
theorem delFault_ok {s : List T_rules_Fault} (hs : s.length ≤ 10000) (k : Int) : Ok (P_slices_DeleteFunc_rules_Fault_rules_Fault s k) (fun r => r = s.filter (keepF k)) := by
  unfold P_slices_DeleteFunc_rules_Fault_rules_Fault
  refine ok_bd (idxFault_ok hs k) fun r hr => ok_ite (fun he => ok_some ?_) (fun hne => ?_)
  · rcases hr with ⟨_, h⟩ | ⟨⟨h, _⟩, _⟩
    · exact (List.filter_eq_self.2 h).symm
    · omega
  · rcases hr with ⟨h, _⟩ | ⟨hb, h1, h2⟩
    · exact absurd h hne
    · have hst := DelI.start (keep := keepF k) hb h1 h2
      obtain ⟨b0, b1⟩ := hb
      refine ok_ar (by unfold I64; omega) (ok_bd (R := fun q => DelI (keepF k) s q.1 q.2 s.length) ?_ ?_)
      · refine ok_lp (fun q => DelI (keepF k) s q.1 q.2.1 q.2.2) (fun q => ((s.length : Int) - q.2.2).toNat) hst (by dsimp only; omega) ?_
        rintro ⟨z, i, j⟩ hI
        dsimp only at hI
        have hl := hI.len
        have i0 := hI.i0
        have ij := hI.ij
        unfold P_slices_DeleteFunc_rules_Fault_rules_Fault_L5
        dsimp only
        refine ok_ite (fun hlt => ok_ck ⟨by omega, by omega⟩ (ok_lv ?_)) (fun hge => ok_some ?_)
        · rw [hI.rest j (Int.le_refl _) hlt]
          refine ok_bd (cbFault k _) ?_
          rintro _ rfl
          refine ok_bd (R := fun q => DelI (keepF k) s q.1 q.2 (j + 1)) (ok_ite (fun hk => ?_) (fun hk => ok_some ?_)) fun q hq => ok_ar (by unfold I64; omega) (ok_some ⟨hq, by dsimp only; omega⟩)
          · exact ok_ck ⟨by omega, by omega⟩ (ok_lv (ok_ar (by unfold I64; omega) (ok_some (hI.kept hlt (by simpa using hk)))))
          · exact hI.drop hlt (by simpa using hk)
        · have : j = s.length := by have := hI.jn; omega
          subst this; exact hI
      · rintro ⟨z, i⟩ hI
        dsimp only at hI
        have hl := hI.len
        have i0 := hI.i0
        have ij := hI.ij
        refine ok_ck ⟨i0, by omega⟩ (ok_lv (ok_ck ⟨by omega, i0, ?_⟩ (ok_lv (ok_some (hI.end rfl _)))))
        simp only [List.length_append, List.length_take, List.length_replicate]; omega
/-! a net is taken out -/
def outL (k : Int) (l : T_rules_Layout) : T_rules_Layout := T_rules_Layout.mk l.W l.H l.Layers l.Nets (l.Wires.filter (keepW k)) (l.Vias.filter (keepV k)) (l.Pins.filter (keepP k)) l.Walls
section
variable {l : T_rules_Layout} {k : Int}
theorem shps_pin {p : T_rules_Pin} (hp : p ∈ l.Pins) : ∃ s ∈ shps l, s.fnet = p.Net ∧ s.fspots = [pspot p] := by
  obtain ⟨i, hi, rfl⟩ := List.getElem_of_mem hp
  exact ⟨_, shps_mem.2 (.inr (.inr ⟨i, hi, rfl⟩)), by rw [gt_nth hi]; rfl, by rw [gt_nth hi]; rfl⟩
theorem out_to {s : T_rules_shape} (h : s ∈ shps (outL k l)) : s.fnet ≠ k ∧ ∃ t ∈ shps l, t.fnet = s.fnet ∧ t.fspots = s.fspots := by
  rcases shps_mem.1 h with ⟨w, hw, rfl⟩ | ⟨v, hv, rfl⟩ | ⟨i, hi, rfl⟩
  · obtain ⟨h1, h2⟩ := List.mem_filter.1 hw
    exact ⟨by simpa [keepW, shW] using h2, _, shps_mem.2 (.inl ⟨w, h1, rfl⟩), rfl, rfl⟩
  · obtain ⟨h1, h2⟩ := List.mem_filter.1 hv
    exact ⟨by simpa [keepV, shV] using h2, _, shps_mem.2 (.inr (.inl ⟨v, h1, rfl⟩)), rfl, rfl⟩
  · have hm : gt (outL k l).Pins (i : Int) ∈ (outL k l).Pins := gt_mem ⟨by omega, by omega⟩
    obtain ⟨h1, h2⟩ := List.mem_filter.1 hm
    obtain ⟨t, ht, e1, e2⟩ := shps_pin h1
    exact ⟨by simpa [keepP, shP] using h2, t, ht, e1, e2⟩
theorem out_fro {s : T_rules_shape} (h : s ∈ shps l) (hn : s.fnet ≠ k) : ∃ t ∈ shps (outL k l), t.fnet = s.fnet ∧ t.fspots = s.fspots := by
  rcases shps_mem.1 h with ⟨w, hw, rfl⟩ | ⟨v, hv, rfl⟩ | ⟨i, hi, rfl⟩
  · exact ⟨_, shps_mem.2 (.inl ⟨w, List.mem_filter.2 ⟨hw, by simpa [keepW, shW] using hn⟩, rfl⟩), rfl, rfl⟩
  · exact ⟨_, shps_mem.2 (.inr (.inl ⟨v, List.mem_filter.2 ⟨hv, by simpa [keepV, shV] using hn⟩, rfl⟩)), rfl, rfl⟩
  · have hm : gt l.Pins (i : Int) ∈ (outL k l).Pins := List.mem_filter.2 ⟨gt_mem ⟨by omega, by omega⟩, by simpa [keepP, shP] using hn⟩
    obtain ⟨t, ht, e1, e2⟩ := shps_pin hm
    exact ⟨t, ht, e1, e2⟩
theorem out_adj {g : T_rules_shape → List T_rules_Spot} (hg : ∀ s t : T_rules_shape, s.fspots = t.fspots → g s = g t) {n : Int} (hn : n ≠ k) : Adj (shps (outL k l)) g n = Adj (shps l) g n := by
  funext p q
  refine propext ⟨?_, ?_⟩
  · rintro ⟨s, hs, rfl, h1, h2⟩
    obtain ⟨_, t, ht, e1, e2⟩ := out_to hs
    exact ⟨t, ht, e1, by rw [hg t s e2]; exact h1, by rw [hg t s e2]; exact h2⟩
  · rintro ⟨s, hs, rfl, h1, h2⟩
    obtain ⟨t, ht, e1, e2⟩ := out_fro hs hn
    exact ⟨t, ht, e1, by rw [hg t s e2]; exact h1, by rw [hg t s e2]; exact h2⟩
theorem out_rest : Rest (fun n => n ≠ k) l (outL k l) := by
  refine ⟨fun n hn => ⟨fun p => ⟨?_, ?_⟩, fun p q => ?_, fun v p q => ?_, fun v p q => ?_, fun v x => ⟨?_, ?_⟩⟩, fun n p h => ?_, fun _ => Iff.rfl, fun v => ?_, ?_, rfl⟩
  · rintro ⟨s, hs, rfl, hp⟩
    obtain ⟨_, t, ht, e1, e2⟩ := out_to hs
    exact ⟨t, ht, e1, by unfold allS; rw [e2]; exact hp⟩
  · rintro ⟨s, hs, rfl, hp⟩
    obtain ⟨t, ht, e1, e2⟩ := out_fro hs hn
    exact ⟨t, ht, e1, by unfold allS; rw [e2]; exact hp⟩
  · rw [out_adj (fun s t e => by unfold allS; exact e) hn]
  · rw [out_adj (fun s t e => by unfold onL; rw [e]) hn]
  · rw [out_adj (fun s t e => by unfold upL; rw [e]) hn]
  · rintro ⟨w, hw, e, hx⟩
    exact ⟨w, (List.mem_filter.1 hw).1, e, hx⟩
  · rintro ⟨w, hw, rfl, hx⟩
    exact ⟨w, List.mem_filter.2 ⟨hw, by simpa [keepW, shW] using hn⟩, rfl, hx⟩
  · obtain ⟨s, hs, rfl, _⟩ := h
    exact (out_to hs).1
  · show v ∈ l.Vias.filter (keepV k) ↔ _
    rw [List.mem_filter]; simp [keepV]
  · show l.Pins.filter (keepP k) = _
    rfl
theorem LayR.out (hl : LayR l) (k : Int) : LayR (outL k l) := by
  refine ⟨hl.W, hl.H, hl.Ly, hl.N, Nat.le_trans (List.length_filter_le _ _) hl.wireL, ?_, Nat.le_trans (List.length_filter_le _ _) hl.viaL, ?_, Nat.le_trans (List.length_filter_le _ _) hl.pinL, ?_, hl.wallL, hl.wall⟩
  · exact All.mem.2 fun y hy => All.mem.1 hl.wire y (List.mem_filter.1 hy).1
  · exact All.mem.2 fun y hy => All.mem.1 hl.via y (List.mem_filter.1 hy).1
  · exact All.mem.2 fun y hy => All.mem.1 hl.pin y (List.mem_filter.1 hy).1
end
theorem keeps_iff {k : Int} {f : T_rules_Fault} : Keeps (fun n => n ≠ k) f ↔ keepF k f = true := by
  unfold Keeps keepF
  simp only [Bool.not_eq_true', Bool.or_eq_false_iff, Bool.and_eq_false_iff, decide_eq_false_iff_not]
  constructor
  · rintro ⟨h1, h2⟩
    refine ⟨h1, ?_⟩
    by_cases q : f.Kind = 1 ∨ f.Kind = 3
    · exact .inr (h2 q)
    · exact .inl ⟨fun h => q (.inl h), fun h => q (.inr h)⟩
  · rintro ⟨h1, h2⟩
    exact ⟨h1, fun q => h2.elim (fun h => q.elim (fun a => absurd a h.1) fun a => absurd a h.2) id⟩
theorem RulesApart_ok {L : List Int} (hL : Strm L) {net : Int} (hn : I64 net) : NOk (P_maskkeep4_RulesApart L net) (fun r => r = true) := by
  unfold P_maskkeep4_RulesApart
  refine nok_bo (Layout_ok hL (k := 0) (by omega) (by omega)) ?_
  rintro ⟨x, k1⟩ ⟨hx, -, -⟩
  have hl : LayR x := LayN.r hx
  have e1 : x.Wires.length ≤ 10 := hl.wireL
  have e2 : x.Vias.length ≤ 5 := hl.viaL
  have e3 : x.Pins.length ≤ 6 := hl.pinL
  have eN : x.Nets ≤ 4 := hl.N.2
  refine nok_bo (Below_ok net hn (by dsimp only; omega)) fun k _ => ?_
  refine nok_bo (S := fun r => r = T_rules_Layout.mk x.W x.H x.Layers x.Nets (x.Wires.filter (keepW k)) (x.Vias.filter (keepV k)) x.Pins x.Walls) ?_ ?_
  · unfold P_detail_Without
    refine ok_bd (cloneWire_ok (s := x.Wires) (by omega)) ?_
    rintro _ rfl
    refine ok_bd (delWire_ok (by omega) k) ?_
    rintro _ rfl
    refine ok_bd (cloneVia_ok (s := x.Vias) (by omega)) ?_
    rintro _ rfl
    refine ok_bd (delVia_ok (by omega) k) ?_
    rintro _ rfl
    exact ok_some rfl
  rintro _ rfl
  refine nok_bo (clonePin_ok (s := x.Pins) (by omega)) ?_
  rintro _ rfl
  refine nok_bo (delPin_ok (by omega) k) ?_
  rintro _ rfl
  refine nok_bd (Faults_ok hl) ?_
  rintro ⟨a, _⟩ ⟨rfl, ha⟩
  refine nok_bd (Faults_ok (hl.out k)) ?_
  rintro ⟨b, _⟩ ⟨rfl, hb⟩
  have hal := ha.lt hl
  refine nok_bo (cloneFault_ok (s := a) (by dsimp only at hal; omega)) ?_
  intro z hz
  rw [hz]
  refine nok_bo (delFault_ok (by dsimp only at hal; omega) k) ?_
  rintro _ rfl
  have hab : a.filter (keepF k) = b := (ha.filter (keepF k)).eq (hb.congr fun f => ((out_rest (l := x) (k := k)).FS f).trans (and_congr Iff.rfl keeps_iff))
  have hfl : (a.filter (keepF k)).length < 10000 := Nat.lt_of_le_of_lt (List.length_filter_le _ _) hal
  refine nok_bd ruled_ok ?_
  rintro _ rfl
  refine nok_lv (nok_lv (nok_bo (FEq_gd hab hfl) ?_))
  rintro _ rfl
  exact nok_lv (nok_ret rfl)
end Go.Proofs.Ytnnmbmgnpdcefaa.X

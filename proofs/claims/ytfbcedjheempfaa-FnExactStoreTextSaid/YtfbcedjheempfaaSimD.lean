/- Rules for the walks: slices of a function's own, appends to them, loops, calls. Conditions: those that each theorem names. -/
import Derived.Test.YtfbcedjheempfaaSimC
set_option linter.unusedVariables false
set_option linter.unusedSimpArgs false
namespace Go.Sim
variable {P : Program} {h : AH}

/-- A slice that may be appended to: object, first cell, how many elements of so many cells, and the cells. -/
structure Own (h : AH) (id off n k : Nat) (cs : List Value) : Prop where
  lt : id < h.n
  len : cs.length = n * k
  ob : ∃ all st ln, h.ob id = .cells all st ln ∧ (st = .solo ∨ st = .tip) ∧ off + n * k = all.length ∧ all.drop off = cs

theorem Own.alloc {id off n k : Nat} {cs : List Value} (w : Own h id off n k cs) (o : AOb) : Own (h.alloc o) id off n k cs :=
  ⟨lt_alloc_of o w.lt, w.len, by rw [alloc_lt o w.lt]; exact w.ob⟩
theorem Own.same {h' : AH} {id off n k : Nat} {cs : List Value} (w : Own h id off n k cs) (e : h'.ob id = h.ob id) (hn : h.n ≤ h'.n) : Own h' id off n k cs :=
  ⟨Nat.lt_of_lt_of_le w.lt hn, w.len, by rw [e]; exact w.ob⟩
theorem Own.pre {h' : AH} {id off n k : Nat} {cs : List Value} (w : Own h id off n k cs) (x : Pre h h') : Own h' id off n k cs := w.same (x.ob _ w.lt) x.n
/-- A new literal or make. -/
theorem Own.new (cs : List Value) (n k : Nat) (e : cs.length = n * k) : Own (h.alloc (.cells cs .solo h.n)) h.n 0 n k cs :=
  ⟨lt_alloc _, e, cs, .solo, h.n, alloc_same _, .inl rfl, by omega, rfl⟩
/-- What an own slice reads as. -/
theorem Own.rd {id off n k : Nat} {cs : List Value} (w : Own h id off n k cs) {lo m : Nat} (hb : lo + m ≤ n * k) : rd h id (off + lo) m = some ((cs.drop lo).take m) := by
  obtain ⟨all, st, ln, ho, _, hl, rfl⟩ := w.ob
  rw [rd_eq, ho, rdO_cells, if_pos (by omega)]
  simp [List.drop_drop]
theorem Own.rdAll {id off n k : Nat} {cs : List Value} (w : Own h id off n k cs) : Sim.rd h id off (n * k) = some cs := by
  have := w.rd (lo := 0) (m := n * k) (by omega)
  rw [Nat.add_zero] at this
  rw [this, List.drop_zero, List.take_of_length_le (by rw [w.len]; exact Nat.le_refl _)]
theorem Own.rd1 {id off n k : Nat} {cs : List Value} (w : Own h id off n k cs) {j : Nat} (hj : j < n * k) : rd1 h id (off + j) = some (cs.getD j undef) := by
  obtain ⟨all, st, ln, ho, _, hl, rfl⟩ := w.ob
  rw [rd1_eq, ho, rd1O_cells, List.getElem?_eq_getElem (by omega)]
  simp [List.getD, show off + j < all.length by omega]

/-- An append to a slice of the function's own. -/
theorem app_own {t u e : TypeId} {s b : Nat} {z : List Value} {ag : Bool} {id off n : Nat} {cs new : List Value} {m : Nat} {x : Value} {K : Value → AH → Prop}
    (hs : si P t = some (e, ⟨s, b, z, ag⟩)) (hpos : 0 < s) (hby : b ≤ 256) (hu : notInt (P.underlying u)) (w : Own h id off n s cs) (hx : asrc h s x = some (m, new)) (hm : new.length = m * s) (hb : n + m < 274877906944)
    (hk : ∀ h', Own h' h.n 0 (n + m) s (cs ++ new) → h'.n = h.n + 1 → (∀ i, i < h.n → i ≠ id → h'.ob i = h.ob i) → K (.slice (some ⟨h.n, 0, none⟩) (n + m) s) h') :
    aappend P h t u (.slice (some ⟨id, off, none⟩) n s) x K := by
  obtain ⟨all, st, ln, ho, hst, hl, rfl⟩ := w.ob
  have hne : h.n ≠ id := fun e => by have := w.lt; omega
  unfold aappend
  rw [hs]
  simp only [hx]
  refine ⟨hpos, hby, hu.1, hu.2, ?_⟩
  have hap : apd h id off n s new = some ((h.set id (.cells all .old ln)).alloc (.cells (all.drop off ++ new) .tip ln)) := by
    unfold apd
    rw [ho]
    rcases hst with rfl | rfl <;> simp [hl]
  simp only [hap]
  refine ⟨trivial, hb, ?_⟩
  refine hk ((h.set id (.cells all .old ln)).alloc (.cells (all.drop off ++ new) .tip ln)) ⟨Nat.lt_succ_self h.n, by rw [List.length_append, hm, w.len, Nat.add_mul], all.drop off ++ new, .tip, ln, alloc_same (h := h.set id (.cells all .old ln)) _, .inr rfl, ?_, rfl⟩ rfl (fun i hi hne' => ?_)
  · rw [List.length_append, hm, w.len, Nat.add_mul]; omega
  · rw [alloc_lt _ (show i < (h.set id (.cells all .old ln)).n from hi), set_ne _ hne']

/-- An append to nothing. -/
theorem app_nil {t u e : TypeId} {s b : Nat} {z : List Value} {ag : Bool} {new : List Value} {m c : Nat} {x : Value} {K : Value → AH → Prop}
    (hs : si P t = some (e, ⟨s, b, z, ag⟩)) (hpos : 0 < s) (hby : b ≤ 256) (hu : notInt (P.underlying u)) (hx : asrc h s x = some (m, new)) (hm : new.length = m * s) (hb : m < 274877906944) (h0 : 0 < m)
    (hk : ∀ h', Own h' h.n 0 m s new → h'.n = h.n + 1 → (∀ i, i < h.n → h'.ob i = h.ob i) → K (.slice (some ⟨h.n, 0, none⟩) m s) h') :
    aappend P h t u (.slice none 0 c) x K := by
  unfold aappend
  simp only [hs, hx]
  exact ⟨hpos, hby, hu.1, hu.2, hb, h0, hk _ (Own.new new m s hm) rfl (fun i hi => alloc_lt _ hi)⟩

/-- What is appended where it is one new element. -/
theorem asrc_new (cs : List Value) (s n c : Nat) (e : cs.length = n * s) : asrc (h.alloc (.cells cs .solo h.n)) s (.slice (some ⟨h.n, 0, none⟩) n c) = some (n, cs) := by
  unfold asrc
  simp only [rd_eq, alloc_same, rdO_cells]
  rw [if_pos (by omega)]
  simp [← e]
theorem asrc_own {id off n k c : Nat} {cs : List Value} (w : Own h id off n k cs) : asrc h k (.slice (some ⟨id, off, none⟩) n c) = some (n, cs) := by
  unfold asrc; simp [w.rdAll]
theorem asrc_str (s : ByteArray) : asrc h 1 (.string s) = some (s.size, bytesV s) := rfl
theorem asrc_nil (k c : Nat) : asrc h k (.slice none 0 c) = some (0, []) := rfl

theorem toBytes_map : ∀ (l : List UInt8), toBytes (l.map fun b => .int .u8 b.toNat) = some l
  | [] => rfl
  | b :: r => by simp [toBytes, toBytes_map r]
theorem toBytes_append : ∀ (a b : List Value), toBytes (a ++ b) = (toBytes a).bind fun x => (toBytes b).map (x ++ ·)
  | [], b => by
    have e : toBytes ([] : List Value) = some [] := rfl
    rw [List.nil_append, e]
    cases toBytes b <;> rfl
  | v :: r, b => by
    cases v <;> first | rfl | skip
    rename_i k n
    cases k <;> first | rfl | skip
    simp only [List.cons_append, toBytes, toBytes_append r b]
    cases toBytes r <;> cases toBytes b <;> simp

/-- A function, out of the walk of its body: its temporaries laid out. -/
theorem CC.of' {f : FuncId} {fn : Func} {c : Code} {args : List Value} {R : Value → AH → Prop} {n : Nat} {rs : Array ResultVar} (hf : P.funcs[f]? = some fn) (hn : fn.ntmps = n) (hr : fn.results = rs) (hb : fn.body = some c)
    (hnm : fn.name ≠ "runtime.NumGoroutine") (hok : codeOK P.globals.size c = true) (hw : wpc P c (bodyQ P rs.toList R) (args ++ List.replicate (n - args.length) undef) h) : CC P f args h R := by
  subst hn; subst hr; exact CC.of hf hb hnm hok hw

theorem CE.of' {f : FuncId} {fn : Func} {c : Code} {args : List Value} {R : Value → AH → Prop} {n : Nat} {rs : Array ResultVar} (hf : P.funcs[f]? = some fn) (hn : fn.ntmps = n) (hr : fn.results = rs) (hb : fn.body = some c)
    (hok : codeOK P.globals.size c = true) (hw : wpc P c (bodyQ P rs.toList R) (args ++ List.replicate (n - args.length) undef) h) : CE P f args h R := by
  subst hn; subst hr; exact CE.of hf hb hok hw

end Go.Sim

/- Parts of the proof of the row: the ground, contracts of the functions that it reaches (L75, L76, L93, L94, L95, L96, L97, L98). Conditions: those that each theorem names. -/
import Derived.Test.YtciajhpeikemoaaB5
namespace Go.Proofs.Ytciajhpeikemoaa
open Go Go.Sim Go.Proofs
set_option linter.unusedSimpArgs false
set_option linter.unusedVariables false
set_option maxRecDepth 100000
set_option maxHeartbeats 1000000
/-- A new slice's cells, of which the first are filled. -/
def Filled {α : Type} (k : Nat) (enc : α → List Value) (l : List α) (cs : List Value) (i : Nat) : Prop := cs.length = l.length * k ∧ ∀ j (hj : j < l.length), j < i → (cs.drop (j * k)).take k = enc l[j]
theorem Filled.put {α : Type} {k : Nat} {enc : α → List Value} {l : List α} {cs : List Value} {i : Nat} (w : Filled k enc l cs i) (hi : i < l.length) (hk : (enc l[i]).length = k) : Filled k enc l (putL cs (i * k) (enc l[i])) (i + 1) := by
  refine ⟨by rw [putL_length, w.1], fun j hj hji => ?_⟩
  have hb : i * k + k ≤ cs.length := by rw [w.1, ← Nat.succ_mul]; exact Nat.mul_le_mul_right k hi
  by_cases e : j = i
  · subst e
    apply List.ext_getElem?
    intro m
    rw [List.getElem?_take]
    by_cases hm : m < k
    · rw [if_pos hm, List.getElem?_drop, putL_in _ _ _ m (by omega) (by omega), List.getElem?_eq_getElem]
    · rw [if_neg hm, List.getElem?_eq_none (by omega)]
  · have hji' : j < i := by omega
    rw [← w.2 j hj hji']
    have hq : j * k + k ≤ i * k := by rw [← Nat.succ_mul]; exact Nat.mul_le_mul_right k hji'
    apply List.ext_getElem?
    intro m
    rw [List.getElem?_take, List.getElem?_take]
    by_cases hm : m < k
    · rw [if_pos hm, if_pos hm, List.getElem?_drop, List.getElem?_drop, putL_out _ _ _ _ (.inl (by omega))]
    · rw [if_neg hm, if_neg hm]
theorem Filled.zero {α : Type} {k : Nat} {enc : α → List Value} {l : List α} (z : List Value) : Filled k enc l (zerosL (l.length * k) z) 0 := ⟨zerosL_length _ _, fun j _ h => absurd h (Nat.not_lt_zero j)⟩
theorem Filled.readAt {α : Type} {k : Nat} {enc : α → List Value} {l : List α} {cs : List Value} (w : Filled k enc l cs l.length) {h : AH} {i : Nat} {st : Sim.Stat} {ln : Nat} (e : h.ob i = .cells cs st ln) : RdE h (some ⟨i, 0, none⟩) k enc l := fun j hj => by
  refine ⟨i, 0, rfl, ?_⟩
  rw [rd_of e, rdO_cells, Nat.zero_add, w.2 j hj hj]
  have : j * k + k ≤ cs.length := by rw [w.1, ← Nat.succ_mul]; exact Nat.mul_le_mul_right k hj
  simp [this]
theorem Filled.read {α : Type} {k : Nat} {enc : α → List Value} {l : List α} {cs : List Value} (w : Filled k enc l cs l.length) (h : AH) : RdE (h.alloc (.cells cs .solo h.n)) (some ⟨h.n, 0, none⟩) k enc l := fun i hi => by
  refine ⟨h.n, 0, rfl, ?_⟩
  rw [rd_alloc_same, rdO_cells, Nat.zero_add, w.2 i hi hi]
  have : i * k + k ≤ cs.length := by rw [w.1, ← Nat.succ_mul]; exact Nat.mul_le_mul_right k hi
  simp [this]
theorem alloc_set {h : AH} (o o' : AOb) : (h.alloc o).set h.n o' = h.alloc o' := by
  unfold AH.set AH.alloc
  simp only
  congr 1
  funext j
  split <;> rfl
theorem toInstr_c (x : Ins) (h : AH) : CD Try.prog 176 [.agg #[.int .i64 x.op, .int .i64 x.arg]] h (.agg #[.int .i64 x.op, .int .i64 x.arg]) h := by
  refine CD.quiet ?_ (low_agg (by simp [low_int]))
  refine CC.ofN Try.func176 Try.ntmps176 Try.results176 rfl (by decide) (by kernel_rfl) ?_
  simp (maxSteps := 1000000) -implicitDefEqProofs only [push_cast, seval]
  repeat' (first | with_reducible (first | exact Keep.refl _ _ | assumption | exact byte_lt _ _ | apply Keep.alloc | (refine Keep.set ?_ ?_; rotate_left; · omega) | apply Pre.alloc | apply Pre.set | exact Pre.refl _ | exact le_alloc _ | (refine Pre.keep ?_; assumption) | (refine Pre.n ?_; assumption)) | ((with_reducible (first | refine bcase_d (fun hb => ?_) (fun hb => ?_) | refine bcase_mk (fun hb => ?_) (fun hb => ?_))) <;> try simp (maxSteps := 1000000) -implicitDefEqProofs only [push_cast, seval]) | with_reducible refine And.intro ?_ ?_ | omega | (simp only [alloc_n, set_n, kill_n]; omega) | (exfalso; omega))
theorem toStringS_c (vs : List ByteArray) (A : Option Addr) (ca : Nat) (h : AH) (hR : RdE h A 1 encS vs) (hn : vs.length < 274877906944) :
    CC Try.prog 91 [.slice A vs.length ca] h (fun v h' => ∃ cs, v = .slice (some ⟨h.n, 0, none⟩) vs.length 1 ∧ h' = h.alloc (.cells cs .solo h.n) ∧ Filled 1 encS vs cs vs.length) := by
  refine CC.withBig (fun big => ?_)
  refine CC.ofN Try.func91 Try.ntmps91 Try.results91 rfl (by decide) (by kernel_rfl) ?_
  simp (maxSteps := 1000000) -implicitDefEqProofs only [push_cast, seval]
  repeat (with_reducible refine And.intro ?_ ?_; · (first | omega | decide))
  refine WC.loopA (by kernel_rfl) [4] [8, 9, 10, 11, 12, 13, 14, 15, 16, 17, 18, 19, 20] (fun a : Nat × List Value => [.int .i64 (a.1 : Nat)]) (fun a h' => h' = h.alloc (.cells a.2 .solo h.n) ∧ a.1 ≤ vs.length ∧ Filled 1 encS vs a.2 a.1) (fun a => vs.length - a.1) (0, List.replicate (vs.length * 1) (.string ⟨#[]⟩)) (by kernel_rfl) ⟨rfl, Nat.zero_le _, by simp, fun j _ h => absurd h (Nat.not_lt_zero j)⟩ ?_
  intro a g h1 hJ
  have hh := hJ.1
  have hi := hJ.2.1
  have hf := hJ.2.2
  clear hJ
  subst hh
  have pb : Pre h (h.alloc (.cells a.2 .solo h.n)) := (Pre.refl _).alloc _
  simp (maxSteps := 1000000) -implicitDefEqProofs only [push_cast, seval]
  with_reducible refine bcase_d (fun hb => ?_) (fun hb => ?_)
  · have hi' : a.1 < vs.length := by omega
    with_reducible refine hR.use big pb hi' (fun id off eA hlt hr => ?_)
    subst eA
    simp only [encS, Nat.mul_one] at hr
    have r0 := rd_1 hr
    have hc := hf.1
    have hf' := hf.put hi' rfl
    simp only [encS] at hf'
    have hbd : a.1 + 1 ≤ vs.length * 1 := by omega
    simp (maxSteps := 1000000) -implicitDefEqProofs only [push_cast, seval, hr, r0, hlt, Nat.mul_one]
    repeat' (first | with_reducible (first | exact Keep.refl _ _ | assumption | exact byte_lt _ _ | apply Keep.alloc | (refine Keep.set ?_ ?_; rotate_left; · omega) | apply Pre.alloc | apply Pre.set | exact Pre.refl _ | exact le_alloc _ | (refine Pre.keep ?_; assumption) | (refine Pre.n ?_; assumption)) | ((with_reducible (first | refine bcase_d (fun hb => ?_) (fun hb => ?_) | refine bcase_mk (fun hb => ?_) (fun hb => ?_))) <;> try simp (maxSteps := 1000000) -implicitDefEqProofs only [push_cast, seval, hr, r0, hlt, Nat.mul_one, hc, hbd]) | with_reducible refine And.intro ?_ ?_ | omega | (simp only [alloc_n, set_n, kill_n]; omega) | (exfalso; omega))
    rw [wrapSucc (by omega)]
    refine ⟨(a.1 + 1, putL a.2 (a.1 * 1) [.string vs[a.1]]), by kernel_rfl, ⟨?_, ?_, hf'⟩, ?_⟩
    · simp only [putL, alloc_set, Nat.mul_one]
    · show a.1 + 1 ≤ vs.length
      omega
    · show vs.length - (a.1 + 1) < vs.length - a.1
      omega
  · have hn : a.1 = vs.length := by omega
    rw [hn] at hf
    simp (maxSteps := 1000000) -implicitDefEqProofs only [push_cast, seval]
    repeat' (first | with_reducible (first | exact Keep.refl _ _ | assumption | exact byte_lt _ _ | apply Keep.alloc | (refine Keep.set ?_ ?_; rotate_left; · omega) | apply Pre.alloc | apply Pre.set | exact Pre.refl _ | exact le_alloc _ | (refine Pre.keep ?_; assumption) | (refine Pre.n ?_; assumption)) | ((with_reducible (first | refine bcase_d (fun hb => ?_) (fun hb => ?_) | refine bcase_mk (fun hb => ?_) (fun hb => ?_))) <;> try simp (maxSteps := 1000000) -implicitDefEqProofs only [push_cast, seval]) | with_reducible refine And.intro ?_ ?_ | omega | (simp only [alloc_n, set_n, kill_n]; omega) | (exfalso; omega))
    exact ⟨_, rfl, hf⟩
theorem toInstrS_c (vs : List Ins) (A : Option Addr) (ca : Nat) (h : AH) (hR : RdE h A 2 encN vs) (hn : vs.length < 274877906944) :
    CC Try.prog 140 [.slice A vs.length ca] h (fun v h' => ∃ cs, v = .slice (some ⟨h.n, 0, none⟩) vs.length 2 ∧ h' = h.alloc (.cells cs .solo h.n) ∧ Filled 2 encN vs cs vs.length) := by
  refine CC.withBig (fun big => ?_)
  refine CC.ofN Try.func140 Try.ntmps140 Try.results140 rfl (by decide) (by kernel_rfl) ?_
  simp (maxSteps := 1000000) -implicitDefEqProofs only [push_cast, seval]
  repeat (with_reducible refine And.intro ?_ ?_; · (first | omega | decide))
  refine WC.loopA (by kernel_rfl) [4] [8, 9, 10, 11, 12, 13, 14, 15, 16, 17, 18, 19, 20, 21] (fun a : Nat × List Value => [.int .i64 (a.1 : Nat)]) (fun a h' => h' = h.alloc (.cells a.2 .solo h.n) ∧ a.1 ≤ vs.length ∧ Filled 2 encN vs a.2 a.1) (fun a => vs.length - a.1) (0, zerosL (vs.length * 2) [.int .i64 0, .int .i64 0]) (by kernel_rfl) ⟨rfl, Nat.zero_le _, Filled.zero _⟩ ?_
  intro a g h1 hJ
  have hh := hJ.1
  have hi := hJ.2.1
  have hf := hJ.2.2
  clear hJ
  subst hh
  have pb : Pre h (h.alloc (.cells a.2 .solo h.n)) := (Pre.refl _).alloc _
  simp (maxSteps := 1000000) -implicitDefEqProofs only [push_cast, seval]
  with_reducible refine bcase_d (fun hb => ?_) (fun hb => ?_)
  · have hi' : a.1 < vs.length := by omega
    with_reducible refine hR.use big pb hi' (fun id off eA hlt hr => ?_)
    subst eA
    simp only [encN] at hr
    have hc := hf.1
    have hf' := hf.put hi' rfl
    simp only [encN] at hf'
    simp (maxSteps := 1000000) -implicitDefEqProofs only [push_cast, seval, hr, hlt]
    repeat' (first | with_reducible (first | exact Keep.refl _ _ | assumption | exact byte_lt _ _ | apply Keep.alloc | (refine Keep.set ?_ ?_; rotate_left; · omega) | apply Pre.alloc | apply Pre.set | exact Pre.refl _ | exact le_alloc _ | (refine Pre.keep ?_; assumption) | (refine Pre.n ?_; assumption)) | ((with_reducible (first | refine CD.to (toInstr_c _ _) ?_ | refine CQ.pure (fun _ => toInstr_c _ _) ?_ | refine bcase_d (fun hb => ?_) (fun hb => ?_) | refine bcase_mk (fun hb => ?_) (fun hb => ?_))) <;> try simp (maxSteps := 1000000) -implicitDefEqProofs only [push_cast, seval, hr, hlt]) | with_reducible refine And.intro ?_ ?_ | omega | (simp only [alloc_n, set_n, kill_n]; omega) | (exfalso; omega))
    rw [wrapSucc (by omega)]
    refine ⟨(a.1 + 1, putL a.2 (a.1 * 2) [.int .i64 vs[a.1].op, .int .i64 vs[a.1].arg]), by kernel_rfl, ⟨?_, ?_, hf'⟩, ?_⟩
    · simp only [putL, alloc_set]
    · show a.1 + 1 ≤ vs.length
      omega
    · show vs.length - (a.1 + 1) < vs.length - a.1
      omega
  · have hn : a.1 = vs.length := by omega
    rw [hn] at hf
    simp (maxSteps := 1000000) -implicitDefEqProofs only [push_cast, seval]
    repeat' (first | with_reducible (first | exact Keep.refl _ _ | assumption | exact byte_lt _ _ | apply Keep.alloc | (refine Keep.set ?_ ?_; rotate_left; · omega) | apply Pre.alloc | apply Pre.set | exact Pre.refl _ | exact le_alloc _ | (refine Pre.keep ?_; assumption) | (refine Pre.n ?_; assumption)) | ((with_reducible (first | refine bcase_d (fun hb => ?_) (fun hb => ?_) | refine bcase_mk (fun hb => ?_) (fun hb => ?_))) <;> try simp (maxSteps := 1000000) -implicitDefEqProofs only [push_cast, seval]) | with_reducible refine And.intro ?_ ?_ | omega | (simp only [alloc_n, set_n, kill_n]; omega) | (exfalso; omega))
    exact ⟨_, rfl, hf⟩
theorem take_next {α : Type} {l m : List α} {i : Nat} (e : l.take i = m.take i) (hi : i < l.length) (hj : i < m.length) (h : l[i] = m[i]) : l.take (i + 1) = m.take (i + 1) := by
  rw [List.take_add_one, List.take_add_one, e, List.getElem?_eq_getElem hi, List.getElem?_eq_getElem hj, h]
theorem take_full {α : Type} {l m : List α} (e : l.take l.length = m.take l.length) (h : l.length = m.length) : l = m := by
  rw [List.take_length, h, List.take_length] at e; exact e
theorem eqInstr_c (a b : Ins) (h : AH) : CD Try.prog 126 [.agg #[.int .i64 a.op, .int .i64 a.arg], .agg #[.int .i64 b.op, .int .i64 b.arg]] h (.bool (decide (a = b))) h := by
  refine CD.quiet ?_ (low_bool _ _)
  refine CC.ofN Try.func126 Try.ntmps126 Try.results126 rfl (by decide) (by kernel_rfl) ?_
  simp (maxSteps := 1000000) -implicitDefEqProofs only [push_cast, seval]
  repeat' (first | with_reducible (first | exact Keep.refl _ _ | assumption | exact byte_lt _ _ | apply Keep.alloc | (refine Keep.set ?_ ?_; rotate_left; · omega) | apply Pre.alloc | apply Pre.set | exact Pre.refl _ | exact le_alloc _ | (refine Pre.keep ?_; assumption) | (refine Pre.n ?_; assumption)) | ((with_reducible (first | refine bcase_d (fun hb => ?_) (fun hb => ?_) | refine bcase_mk (fun hb => ?_) (fun hb => ?_))) <;> try simp (maxSteps := 1000000) -implicitDefEqProofs only [push_cast, seval]) | with_reducible refine And.intro ?_ ?_ | omega | (simp only [alloc_n, set_n, kill_n]; omega) | (exfalso; omega))
  all_goals (obtain ⟨a1, a2⟩ := a; obtain ⟨b1, b2⟩ := b; simp_all [Ins.mk.injEq])
theorem eqInstrS_c (l m : List Ins) (A B : Option Addr) (ca cb : Nat) (h : AH) (hA : RdE h A 2 encN l) (hB : RdE h B 2 encN m) (hl : l.length < 274877906944) (hm : m.length < 274877906944) :
    CD Try.prog 73 [.slice A l.length ca, .slice B m.length cb] h (.bool (decide (l = m))) h := by
  refine CD.withBig (fun big => ?_)
  refine CD.quiet ?_ (low_bool _ _)
  refine CC.ofN Try.func73 Try.ntmps73 Try.results73 rfl (by decide) (by kernel_rfl) ?_
  simp (maxSteps := 1000000) -implicitDefEqProofs only [push_cast, seval]
  with_reducible refine bcase_d (fun hb => ?_) (fun hb => ?_)
  rotate_left
  · simp (maxSteps := 1000000) -implicitDefEqProofs only [push_cast, seval]
    repeat' (first | with_reducible (first | exact Keep.refl _ _ | assumption | exact byte_lt _ _ | apply Keep.alloc | (refine Keep.set ?_ ?_; rotate_left; · omega) | apply Pre.alloc | apply Pre.set | exact Pre.refl _ | exact le_alloc _ | (refine Pre.keep ?_; assumption) | (refine Pre.n ?_; assumption)) | ((with_reducible (first | refine bcase_d (fun hb => ?_) (fun hb => ?_) | refine bcase_mk (fun hb => ?_) (fun hb => ?_))) <;> try simp (maxSteps := 1000000) -implicitDefEqProofs only [push_cast, seval]) | with_reducible refine And.intro ?_ ?_ | omega | (simp only [alloc_n, set_n, kill_n]; omega) | (exfalso; omega))
    have : l ≠ m := fun e => hb (by rw [e])
    simp [this]
  have hlm : l.length = m.length := by omega
  simp (maxSteps := 1000000) -implicitDefEqProofs only [push_cast, seval]
  refine WC.loopA (by kernel_rfl) [5] [4, 11, 12, 13, 14, 15, 16, 17, 18, 19, 20, 21, 22, 23, 24, 25, 26] (fun a : Nat => [.int .i64 (a : Nat)]) (fun a h' => a ≤ l.length ∧ l.take a = m.take a ∧ Pre h h') (fun a => l.length - a) 0 (by kernel_rfl) ⟨Nat.zero_le _, by simp, Pre.refl _⟩ ?_
  intro a g h1 hJ
  have hi := hJ.1
  have he := hJ.2.1
  have hp := hJ.2.2
  clear hJ
  simp (maxSteps := 1000000) -implicitDefEqProofs only [push_cast, seval]
  with_reducible refine bcase_d (fun hb => ?_) (fun hb => ?_)
  · have hi' : a < l.length := by omega
    have hj' : a < m.length := by omega
    with_reducible refine hA.use big hp hi' (fun id off eA hlt hr => ?_)
    with_reducible refine hB.use big hp hj' (fun id2 off2 eB hlt2 hr2 => ?_)
    subst eA
    subst eB
    simp only [encN] at hr hr2
    simp (maxSteps := 1000000) -implicitDefEqProofs only [push_cast, seval, hr, hlt, hr2, hlt2]
    refine WC.draw' (by kernel_rfl) (by kernel_rfl) (.q 0 (.q 1 (.q 2 (.q 3 (.q 4 (.q 5 (.q 6 (.q 7 (.c 8 (.q 9 (.done))))))))))) (by kernel_rfl) ?_
    simp (maxSteps := 1000000) -implicitDefEqProofs only [push_cast, seval, hr, hlt, hr2, hlt2]
    repeat' (first | with_reducible (first | exact Keep.refl _ _ | assumption | exact byte_lt _ _ | apply Keep.alloc | (refine Keep.set ?_ ?_; rotate_left; · omega) | apply Pre.alloc | apply Pre.set | exact Pre.refl _ | exact le_alloc _ | (refine Pre.keep ?_; assumption) | (refine Pre.n ?_; assumption)) | ((with_reducible (first | refine CD.to (eqInstr_c _ _ _) ?_ | refine CQ.pure (fun _ => eqInstr_c _ _ _) ?_ | refine bcase_d (fun hb => ?_) (fun hb => ?_) | refine bcase_mk (fun hb => ?_) (fun hb => ?_))) <;> try simp (maxSteps := 1000000) -implicitDefEqProofs only [push_cast, seval, hr, hlt, hr2, hlt2]) | with_reducible refine And.intro ?_ ?_ | omega | (simp only [alloc_n, set_n, kill_n]; omega) | (exfalso; omega))
    · rw [wrapSucc (by omega)]
      refine ⟨a + 1, by kernel_rfl, ⟨by show a + 1 ≤ l.length; omega, take_next he hi' hj' ?_, hp⟩, by show l.length - (a + 1) < l.length - a; omega⟩
      simpa using hb
    · have : l ≠ m := fun e => by subst e; simp at hb
      simp [this]
  · have hn : a = l.length := by omega
    subst hn
    simp (maxSteps := 1000000) -implicitDefEqProofs only [push_cast, seval]
    repeat' (first | with_reducible (first | exact Keep.refl _ _ | assumption | exact byte_lt _ _ | apply Keep.alloc | (refine Keep.set ?_ ?_; rotate_left; · omega) | apply Pre.alloc | apply Pre.set | exact Pre.refl _ | exact le_alloc _ | (refine Pre.keep ?_; assumption) | (refine Pre.n ?_; assumption)) | ((with_reducible (first | refine bcase_d (fun hb => ?_) (fun hb => ?_) | refine bcase_mk (fun hb => ?_) (fun hb => ?_))) <;> try simp (maxSteps := 1000000) -implicitDefEqProofs only [push_cast, seval]) | with_reducible refine And.intro ?_ ?_ | omega | (simp only [alloc_n, set_n, kill_n]; omega) | (exfalso; omega))
    have := take_full he hlm
    simp [this]
theorem eqStringS_c (l m : List ByteArray) (A B : Option Addr) (ca cb : Nat) (h : AH) (hA : RdE h A 1 encS l) (hB : RdE h B 1 encS m) (hl : l.length < 274877906944) (hm : m.length < 274877906944) :
    CD Try.prog 72 [.slice A l.length ca, .slice B m.length cb] h (.bool (decide (l = m))) h := by
  refine CD.withBig (fun big => ?_)
  refine CD.quiet ?_ (low_bool _ _)
  refine CC.ofN Try.func72 Try.ntmps72 Try.results72 rfl (by decide) (by kernel_rfl) ?_
  simp (maxSteps := 1000000) -implicitDefEqProofs only [push_cast, seval]
  with_reducible refine bcase_d (fun hb => ?_) (fun hb => ?_)
  rotate_left
  · simp (maxSteps := 1000000) -implicitDefEqProofs only [push_cast, seval]
    repeat' (first | with_reducible (first | exact Keep.refl _ _ | assumption | exact byte_lt _ _ | apply Keep.alloc | (refine Keep.set ?_ ?_; rotate_left; · omega) | apply Pre.alloc | apply Pre.set | exact Pre.refl _ | exact le_alloc _ | (refine Pre.keep ?_; assumption) | (refine Pre.n ?_; assumption)) | ((with_reducible (first | refine bcase_d (fun hb => ?_) (fun hb => ?_) | refine bcase_mk (fun hb => ?_) (fun hb => ?_))) <;> try simp (maxSteps := 1000000) -implicitDefEqProofs only [push_cast, seval]) | with_reducible refine And.intro ?_ ?_ | omega | (simp only [alloc_n, set_n, kill_n]; omega) | (exfalso; omega))
    have : l ≠ m := fun e => hb (by rw [e])
    simp [this]
  have hlm : l.length = m.length := by omega
  simp (maxSteps := 1000000) -implicitDefEqProofs only [push_cast, seval]
  refine WC.loopA (by kernel_rfl) [5] [4, 11, 12, 13, 14, 15, 16, 17, 18, 19, 20, 21, 22, 23, 24, 25] (fun a : Nat => [.int .i64 (a : Nat)]) (fun a h' => a ≤ l.length ∧ l.take a = m.take a ∧ Pre h h') (fun a => l.length - a) 0 (by kernel_rfl) ⟨Nat.zero_le _, by simp, Pre.refl _⟩ ?_
  intro a g h1 hJ
  have hi := hJ.1
  have he := hJ.2.1
  have hp := hJ.2.2
  clear hJ
  simp (maxSteps := 1000000) -implicitDefEqProofs only [push_cast, seval]
  with_reducible refine bcase_d (fun hb => ?_) (fun hb => ?_)
  · have hi' : a < l.length := by omega
    have hj' : a < m.length := by omega
    with_reducible refine hA.use big hp hi' (fun id off eA hlt hr => ?_)
    with_reducible refine hB.use big hp hj' (fun id2 off2 eB hlt2 hr2 => ?_)
    subst eA
    subst eB
    simp only [encS, Nat.mul_one] at hr hr2
    have r0 := rd_1 hr
    have r02 := rd_1 hr2
    simp (maxSteps := 1000000) -implicitDefEqProofs only [push_cast, seval, hr, r0, hlt, hr2, r02, hlt2, Nat.mul_one]
    refine WC.draw' (by kernel_rfl) (by kernel_rfl) (.q 0 (.q 1 (.q 2 (.q 3 (.q 4 (.q 5 (.q 6 (.q 7 (.q 8 (.done)))))))))) (by kernel_rfl) ?_
    simp (maxSteps := 1000000) -implicitDefEqProofs only [push_cast, seval, hr, r0, hlt, hr2, r02, hlt2, Nat.mul_one]
    repeat (with_reducible refine And.intro ?_ ?_; · (first | omega | decide))
    with_reducible refine bcase_d (fun hb2 => ?_) (fun hb2 => ?_)
    · simp (maxSteps := 1000000) -implicitDefEqProofs only [push_cast, seval]
      rw [wrapSucc (by omega)]
      exact ⟨a + 1, by kernel_rfl, ⟨by show a + 1 ≤ l.length; omega, take_next he hi' hj' hb2, hp⟩, by show l.length - (a + 1) < l.length - a; omega⟩
    · simp (maxSteps := 1000000) -implicitDefEqProofs only [push_cast, seval]
      have : l ≠ m := fun e => by subst e; exact hb2 rfl
      exact ⟨by simp [this], hp.keep⟩
  · have hn : a = l.length := by omega
    subst hn
    simp (maxSteps := 1000000) -implicitDefEqProofs only [push_cast, seval]
    repeat' (first | with_reducible (first | exact Keep.refl _ _ | assumption | exact byte_lt _ _ | apply Keep.alloc | (refine Keep.set ?_ ?_; rotate_left; · omega) | apply Pre.alloc | apply Pre.set | exact Pre.refl _ | exact le_alloc _ | (refine Pre.keep ?_; assumption) | (refine Pre.n ?_; assumption)) | ((with_reducible (first | refine bcase_d (fun hb => ?_) (fun hb => ?_) | refine bcase_mk (fun hb => ?_) (fun hb => ?_))) <;> try simp (maxSteps := 1000000) -implicitDefEqProofs only [push_cast, seval]) | with_reducible refine And.intro ?_ ?_ | omega | (simp only [alloc_n, set_n, kill_n]; omega) | (exfalso; omega))
    have := take_full he hlm
    simp [this]
end Go.Proofs.Ytciajhpeikemoaa
namespace Go.Proofs.Ytciajhpeikemoaa
open Go Go.Sim Go.Proofs
set_option linter.unusedSimpArgs false
set_option linter.unusedVariables false
set_option maxRecDepth 100000
set_option maxHeartbeats 1000000
theorem Filled.rdv {α : Type} {k : Nat} {enc : α → List Value} {l : List α} {cs : List Value} (w : Filled k enc l cs l.length) (hl : ∀ x, (enc x).length = k) {h : AH} {i c : Nat} {st : Sim.Stat} {ln : Nat} (e : h.ob i = .cells cs st ln) (hi : i < h.n) : RdV h (.slice (some ⟨i, 0, none⟩) l.length c) k enc l := by
  refine .inr ⟨i, 0, c, rfl, ?_, hi⟩
  have hc : cs = (l.map enc).flatten := by
    have hf := flat_len (enc := enc) l hl
    apply List.ext_getElem?
    intro j
    by_cases hk : k = 0
    · rw [List.getElem?_eq_none (by rw [w.1, hk]; omega), List.getElem?_eq_none (by rw [hf, hk]; omega)]
    by_cases hj : j < l.length * k
    · have hq : j / k < l.length := Nat.div_lt_of_lt_mul (by rw [Nat.mul_comm]; exact hj)
      have hm : j % k < k := Nat.mod_lt _ (by omega)
      have h1 := w.2 (j / k) hq hq
      have h2 := chunk_at (enc := enc) (k := k) (j / k) hq (fun x _ => hl x)
      have e1 := congrArg (·[j % k]?) h1
      have e2 := congrArg (·[j % k]?) h2
      simp only [List.getElem?_take, hm, if_true, List.getElem?_drop] at e1 e2
      have hd : j / k * k + j % k = j := by rw [Nat.mul_comm]; exact Nat.div_add_mod j k
      rw [hd] at e1 e2
      rw [e1, e2]
    · rw [List.getElem?_eq_none (by rw [w.1]; omega), List.getElem?_eq_none (by rw [hf]; omega)]
  rw [rd_of e, rdO_cells, if_pos (by rw [w.1]; omega), List.drop_zero, List.take_of_length_le (by rw [w.1]; omega), hc]
theorem toCode_c (c : Cod) (vA vB : Value) (h : AH) (r : RdC h vA vB c) (ht : c.texts.length < 274877906944) (hl : c.list.length < 274877906944) :
    CC Try.prog 89 [.agg #[vA, vB, .int .i64 c.bgn, .int .i64 c.line, .int .i64 c.fin]] h (fun v h' => ∃ rA rB, v = .agg #[rA, rB, .int .i64 c.bgn, .int .i64 c.line, .int .i64 c.fin] ∧ RdC h' rA rB c ∧ Pre h h' ∧ ∀ i, (atBlock rA i ∨ atBlock rB i) → h.n ≤ i) := by
  refine CC.withBig (fun big => ?_)
  obtain ⟨A, cA, rfl, hA⟩ := r.texts.rde (fun _ => rfl)
  obtain ⟨B, cB, rfl, hB⟩ := r.list.rde (fun _ => rfl)
  refine CC.ofN Try.func89 Try.ntmps89 Try.results89 rfl (by decide) (by kernel_rfl) ?_
  simp (maxSteps := 1000000) -implicitDefEqProofs only [push_cast, seval]
  have p0 : Pre h (((h.alloc (.cells [.slice A c.texts.length cA, .slice B c.list.length cB, .int .i64 c.bgn, .int .i64 c.line, .int .i64 c.fin] .solo h.n)).alloc (.cells [.slice none 0 0, .slice none 0 0, .int .i64 0, .int .i64 0, .int .i64 0] .solo (h.n + 1))).alloc (.cells [.slice none 0 0, .slice none 0 0, .int .i64 0, .int .i64 0, .int .i64 0] .solo (h.n + 2))) := (((Pre.refl h).alloc _).alloc _).alloc _
  have c0 : (((h.alloc (.cells [.slice A c.texts.length cA, .slice B c.list.length cB, .int .i64 c.bgn, .int .i64 c.line, .int .i64 c.fin] .solo h.n)).alloc (.cells [.slice none 0 0, .slice none 0 0, .int .i64 0, .int .i64 0, .int .i64 0] .solo (h.n + 1))).alloc (.cells [.slice none 0 0, .slice none 0 0, .int .i64 0, .int .i64 0, .int .i64 0] .solo (h.n + 2))).ob h.n = AOb.cells [.slice A c.texts.length cA, .slice B c.list.length cB, .int .i64 c.bgn, .int .i64 c.line, .int .i64 c.fin] .solo h.n := (by (try simp (maxSteps := 1000000) -implicitDefEqProofs only [push_cast, seval, rdOb]); try rfl)
  have c1 : (((h.alloc (.cells [.slice A c.texts.length cA, .slice B c.list.length cB, .int .i64 c.bgn, .int .i64 c.line, .int .i64 c.fin] .solo h.n)).alloc (.cells [.slice none 0 0, .slice none 0 0, .int .i64 0, .int .i64 0, .int .i64 0] .solo (h.n + 1))).alloc (.cells [.slice none 0 0, .slice none 0 0, .int .i64 0, .int .i64 0, .int .i64 0] .solo (h.n + 2))).ob (h.n + 1) = AOb.cells [.slice none 0 0, .slice none 0 0, .int .i64 0, .int .i64 0, .int .i64 0] .solo (h.n + 1) := (by (try simp (maxSteps := 1000000) -implicitDefEqProofs only [push_cast, seval, rdOb]); try rfl)
  have c2 : (((h.alloc (.cells [.slice A c.texts.length cA, .slice B c.list.length cB, .int .i64 c.bgn, .int .i64 c.line, .int .i64 c.fin] .solo h.n)).alloc (.cells [.slice none 0 0, .slice none 0 0, .int .i64 0, .int .i64 0, .int .i64 0] .solo (h.n + 1))).alloc (.cells [.slice none 0 0, .slice none 0 0, .int .i64 0, .int .i64 0, .int .i64 0] .solo (h.n + 2))).ob (h.n + 2) = AOb.cells [.slice none 0 0, .slice none 0 0, .int .i64 0, .int .i64 0, .int .i64 0] .solo (h.n + 2) := (by (try simp (maxSteps := 1000000) -implicitDefEqProofs only [push_cast, seval, rdOb]); try rfl)
  have n0 : (((h.alloc (.cells [.slice A c.texts.length cA, .slice B c.list.length cB, .int .i64 c.bgn, .int .i64 c.line, .int .i64 c.fin] .solo h.n)).alloc (.cells [.slice none 0 0, .slice none 0 0, .int .i64 0, .int .i64 0, .int .i64 0] .solo (h.n + 1))).alloc (.cells [.slice none 0 0, .slice none 0 0, .int .i64 0, .int .i64 0, .int .i64 0] .solo (h.n + 2))).n = h.n + 3 := rfl
  generalize (((h.alloc (.cells [.slice A c.texts.length cA, .slice B c.list.length cB, .int .i64 c.bgn, .int .i64 c.line, .int .i64 c.fin] .solo h.n)).alloc (.cells [.slice none 0 0, .slice none 0 0, .int .i64 0, .int .i64 0, .int .i64 0] .solo (h.n + 1))).alloc (.cells [.slice none 0 0, .slice none 0 0, .int .i64 0, .int .i64 0, .int .i64 0] .solo (h.n + 2))) = H0 at *
  with_reducible refine CC.mono (toStringS_c c.texts A cA _ (hA.pre big p0) ht) (fun v h1 hv => ?_)
  with_reducible refine Exists.elim hv (fun cs hw => ?_)
  have e1 := hw.1
  have e2 := hw.2.1
  have f1 := hw.2.2
  clear hv hw
  subst e1 e2
  have d0 : (H0.alloc (.cells cs .solo H0.n)).ob h.n = _ := (alloc_lt _ (by omega)).trans c0
  have d1 : (H0.alloc (.cells cs .solo H0.n)).ob (h.n + 1) = _ := (alloc_lt _ (by omega)).trans c1
  have d2 : (H0.alloc (.cells cs .solo H0.n)).ob (h.n + 2) = _ := (alloc_lt _ (by omega)).trans c2
  have d3 : (H0.alloc (.cells cs .solo H0.n)).ob H0.n = _ := alloc_same _
  have n1 : (H0.alloc (.cells cs .solo H0.n)).n = H0.n + 1 := rfl
  have p1 : Pre h (H0.alloc (.cells cs .solo H0.n)) := p0.alloc _
  generalize H0.alloc (.cells cs .solo H0.n) = H1 at *
  have l0 : h.n < H1.n := by omega
  have l1 : h.n + 1 < H1.n := by omega
  have l2 : h.n + 2 < H1.n := by omega
  simp (maxSteps := 1000000) -implicitDefEqProofs only [push_cast, seval, d0, rd_of d0, rd1_of d0, d1, rd_of d1, rd1_of d1, d2, rd_of d2, rd1_of d2, l0, l1, l2]
  have p2 : Pre h (H1.set (h.n + 2) (.cells [.slice (some ⟨H0.n, 0, none⟩) c.texts.length 1, .slice none 0 0, .int .i64 0, .int .i64 0, .int .i64 0] .solo (h.n + 2))) := p1.set (by omega) _
  have e0 : (H1.set (h.n + 2) (.cells [.slice (some ⟨H0.n, 0, none⟩) c.texts.length 1, .slice none 0 0, .int .i64 0, .int .i64 0, .int .i64 0] .solo (h.n + 2))).ob h.n = _ := (set_ne _ (by omega)).trans d0
  have e1 : (H1.set (h.n + 2) (.cells [.slice (some ⟨H0.n, 0, none⟩) c.texts.length 1, .slice none 0 0, .int .i64 0, .int .i64 0, .int .i64 0] .solo (h.n + 2))).ob (h.n + 1) = _ := (set_ne _ (by omega)).trans d1
  have e2 : (H1.set (h.n + 2) (.cells [.slice (some ⟨H0.n, 0, none⟩) c.texts.length 1, .slice none 0 0, .int .i64 0, .int .i64 0, .int .i64 0] .solo (h.n + 2))).ob (h.n + 2) = AOb.cells [.slice (some ⟨H0.n, 0, none⟩) c.texts.length 1, .slice none 0 0, .int .i64 0, .int .i64 0, .int .i64 0] .solo (h.n + 2) := set_same _ _
  have e3 : (H1.set (h.n + 2) (.cells [.slice (some ⟨H0.n, 0, none⟩) c.texts.length 1, .slice none 0 0, .int .i64 0, .int .i64 0, .int .i64 0] .solo (h.n + 2))).ob H0.n = _ := (set_ne _ (by omega)).trans d3
  have n2 : (H1.set (h.n + 2) (.cells [.slice (some ⟨H0.n, 0, none⟩) c.texts.length 1, .slice none 0 0, .int .i64 0, .int .i64 0, .int .i64 0] .solo (h.n + 2))).n = H1.n := rfl
  generalize (H1.set (h.n + 2) (.cells [.slice (some ⟨H0.n, 0, none⟩) c.texts.length 1, .slice none 0 0, .int .i64 0, .int .i64 0, .int .i64 0] .solo (h.n + 2))) = H2 at *
  with_reducible refine CC.mono (toInstrS_c c.list B cB _ (hB.pre big p2) hl) (fun v h1 hv => ?_)
  with_reducible refine Exists.elim hv (fun cs2 hw => ?_)
  have ev := hw.1
  have eh := hw.2.1
  have f2 := hw.2.2
  clear hv hw
  subst ev eh
  have g0 : (H2.alloc (.cells cs2 .solo H2.n)).ob h.n = _ := (alloc_lt _ (by omega)).trans e0
  have g1 : (H2.alloc (.cells cs2 .solo H2.n)).ob (h.n + 1) = _ := (alloc_lt _ (by omega)).trans e1
  have g2 : (H2.alloc (.cells cs2 .solo H2.n)).ob (h.n + 2) = _ := (alloc_lt _ (by omega)).trans e2
  have g3 : (H2.alloc (.cells cs2 .solo H2.n)).ob H0.n = _ := (alloc_lt _ (by omega)).trans e3
  have g4 : (H2.alloc (.cells cs2 .solo H2.n)).ob H2.n = _ := alloc_same _
  have n3 : (H2.alloc (.cells cs2 .solo H2.n)).n = H2.n + 1 := rfl
  have p3 : Pre h (H2.alloc (.cells cs2 .solo H2.n)) := p2.alloc _
  generalize H2.alloc (.cells cs2 .solo H2.n) = H3 at *
  have m0 : h.n < H3.n := by omega
  have m1 : h.n + 1 < H3.n := by omega
  have m2 : h.n + 2 < H3.n := by omega
  simp (maxSteps := 1000000) -implicitDefEqProofs only [push_cast, seval, g0, rd_of g0, rd1_of g0, g1, rd_of g1, rd1_of g1, g2, rd_of g2, rd1_of g2, m0, m1, m2]
  refine ⟨_, _, rfl, ⟨f1.rdv (fun _ => rfl) (st := .solo) (ln := H0.n) ((set_ne _ (by omega)).trans ((set_ne _ (by omega)).trans g3)) (by show H0.n < H3.n; omega), f2.rdv (fun _ => rfl) (st := .solo) (ln := H2.n) ((set_ne _ (by omega)).trans ((set_ne _ (by omega)).trans g4)) (by show H2.n < H3.n; omega)⟩, (p3.set (by omega) _).set (by omega) _, fun i e => by
    rcases e with e | e
    · have e' : H0.n = i := e
      omega
    · have e' : H2.n = i := e
      omega⟩
theorem eqCode_c (c : Cod) (vA vB vC vD : Value) (h : AH) (r : RdC h vA vB c) (r2 : RdC h vC vD c) (ht : c.texts.length < 274877906944) (hl : c.list.length < 274877906944) :
    CD Try.prog 26 [.agg #[vA, vB, .int .i64 c.bgn, .int .i64 c.line, .int .i64 c.fin], .agg #[vC, vD, .int .i64 c.bgn, .int .i64 c.line, .int .i64 c.fin]] h (.bool true) h := by
  refine CD.withBig (fun big => ?_)
  refine CD.quiet ?_ (low_bool _ _)
  obtain ⟨A, cA, rfl, hA⟩ := r.texts.rde (fun _ => rfl)
  obtain ⟨B, cB, rfl, hB⟩ := r.list.rde (fun _ => rfl)
  obtain ⟨C, cC, rfl, hC⟩ := r2.texts.rde (fun _ => rfl)
  obtain ⟨D, cD, rfl, hD⟩ := r2.list.rde (fun _ => rfl)
  have pb : Pre h ((h.alloc (.cells [.slice A c.texts.length cA, .slice B c.list.length cB, .int .i64 c.bgn, .int .i64 c.line, .int .i64 c.fin] .solo h.n)).alloc (.cells [.slice C c.texts.length cC, .slice D c.list.length cD, .int .i64 c.bgn, .int .i64 c.line, .int .i64 c.fin] .solo (h.n + 1))) := ((Pre.refl _).alloc _).alloc _
  have hV := eqStringS_c c.texts c.texts A C cA cC _ (hA.pre big pb) (hC.pre big pb) ht ht
  have hU := eqInstrS_c c.list c.list B D cB cD _ (hB.pre big pb) (hD.pre big pb) hl hl
  rw [decide_eq_true rfl] at hV hU
  refine CC.ofN Try.func26 Try.ntmps26 Try.results26 rfl (by decide) (by kernel_rfl) ?_
  simp (maxSteps := 1000000) -implicitDefEqProofs only [push_cast, seval]
  repeat' (first | with_reducible (first | exact Keep.refl _ _ | assumption | exact byte_lt _ _ | apply Keep.alloc | (refine Keep.set ?_ ?_; rotate_left; · omega) | apply Pre.alloc | apply Pre.set | exact Pre.refl _ | exact le_alloc _ | (refine Pre.keep ?_; assumption) | (refine Pre.n ?_; assumption)) | ((with_reducible (first | refine CD.to (hV) ?_ | refine CQ.pure (fun _ => hV) ?_ | refine CD.to (hU) ?_ | refine CQ.pure (fun _ => hU) ?_ | refine bcase_d (fun hb => ?_) (fun hb => ?_) | refine bcase_mk (fun hb => ?_) (fun hb => ?_))) <;> try simp (maxSteps := 1000000) -implicitDefEqProofs only [push_cast, seval]) | with_reducible refine And.intro ?_ ?_ | omega | (simp only [alloc_n, set_n, kill_n]; omega) | (exfalso; omega))
theorem SzC.small {c : Cod} (h : codeW c ≤ 1048576) : c.texts.length ≤ 1048576 ∧ c.list.length ≤ 1048576 := by unfold codeW at h; omega
end Go.Proofs.Ytciajhpeikemoaa
namespace Go.Proofs.Ytciajhpeikemoaa
open Go Go.Sim Go.Proofs
set_option linter.unusedSimpArgs false
set_option linter.unusedVariables false
set_option maxRecDepth 100000
set_option maxHeartbeats 1000000
theorem toVar_c (x : Var) (h : AH) : CD Try.prog 177 [.agg #[.string x.name, .string x.val]] h (.agg #[.string x.name, .string x.val]) h := by
  refine CD.quiet ?_ (low_agg (by simp [low_string]))
  refine CC.ofN Try.func177 Try.ntmps177 Try.results177 rfl (by decide) (by kernel_rfl) ?_
  simp (maxSteps := 1000000) -implicitDefEqProofs only [push_cast, seval]
  repeat' (first | with_reducible (first | exact Keep.refl _ _ | assumption | exact byte_lt _ _ | apply Keep.alloc | (refine Keep.set ?_ ?_; rotate_left; · omega) | apply Pre.alloc | apply Pre.set | exact Pre.refl _ | exact le_alloc _ | (refine Pre.keep ?_; assumption) | (refine Pre.n ?_; assumption)) | ((with_reducible (first | refine bcase_d (fun hb => ?_) (fun hb => ?_) | refine bcase_mk (fun hb => ?_) (fun hb => ?_))) <;> try simp (maxSteps := 1000000) -implicitDefEqProofs only [push_cast, seval]) | with_reducible refine And.intro ?_ ?_ | omega | (simp only [alloc_n, set_n, kill_n]; omega) | (exfalso; omega))
theorem toCell_c (x : Cell) (h : AH) : CD Try.prog 178 [.agg #[.string x.name, .string x.key, .string x.val]] h (.agg #[.string x.name, .string x.key, .string x.val]) h := by
  refine CD.quiet ?_ (low_agg (by simp [low_string]))
  refine CC.ofN Try.func178 Try.ntmps178 Try.results178 rfl (by decide) (by kernel_rfl) ?_
  simp (maxSteps := 1000000) -implicitDefEqProofs only [push_cast, seval]
  repeat' (first | with_reducible (first | exact Keep.refl _ _ | assumption | exact byte_lt _ _ | apply Keep.alloc | (refine Keep.set ?_ ?_; rotate_left; · omega) | apply Pre.alloc | apply Pre.set | exact Pre.refl _ | exact le_alloc _ | (refine Pre.keep ?_; assumption) | (refine Pre.n ?_; assumption)) | ((with_reducible (first | refine bcase_d (fun hb => ?_) (fun hb => ?_) | refine bcase_mk (fun hb => ?_) (fun hb => ?_))) <;> try simp (maxSteps := 1000000) -implicitDefEqProofs only [push_cast, seval]) | with_reducible refine And.intro ?_ ?_ | omega | (simp only [alloc_n, set_n, kill_n]; omega) | (exfalso; omega))
/-- A new slice's cells, of which the first are filled. -/
theorem toVarS_c (vs : List Var) (A : Option Addr) (ca : Nat) (h : AH) (hR : RdE h A 2 Var.enc vs) (hn : vs.length < 274877906944) :
    CC Try.prog 141 [.slice A vs.length ca] h (fun v h' => ∃ cs, v = .slice (some ⟨h.n, 0, none⟩) vs.length 2 ∧ h' = h.alloc (.cells cs .solo h.n) ∧ Filled 2 Var.enc vs cs vs.length) := by
  refine CC.withBig (fun big => ?_)
  refine CC.ofN Try.func141 Try.ntmps141 Try.results141 rfl (by decide) (by kernel_rfl) ?_
  simp (maxSteps := 1000000) -implicitDefEqProofs only [push_cast, seval]
  repeat (with_reducible refine And.intro ?_ ?_; · (first | omega | decide))
  refine WC.loopA (by kernel_rfl) [4] [8, 9, 10, 11, 12, 13, 14, 15, 16, 17, 18, 19, 20, 21] (fun a : Nat × List Value => [.int .i64 (a.1 : Nat)]) (fun a h' => h' = h.alloc (.cells a.2 .solo h.n) ∧ a.1 ≤ vs.length ∧ Filled 2 Var.enc vs a.2 a.1) (fun a => vs.length - a.1) (0, zerosL (vs.length * 2) [.string ⟨#[]⟩, .string ⟨#[]⟩]) (by kernel_rfl) ⟨rfl, Nat.zero_le _, Filled.zero _⟩ ?_
  intro a g h1 hJ
  have hh := hJ.1
  have hi := hJ.2.1
  have hf := hJ.2.2
  clear hJ
  subst hh
  have pb : Pre h (h.alloc (.cells a.2 .solo h.n)) := (Pre.refl _).alloc _
  simp (maxSteps := 1000000) -implicitDefEqProofs only [push_cast, seval]
  with_reducible refine bcase_d (fun hb => ?_) (fun hb => ?_)
  · have hi' : a.1 < vs.length := by omega
    with_reducible refine hR.use big pb hi' (fun id off eA hlt hr => ?_)
    subst eA
    simp only [Var.enc] at hr
    have hc := hf.1
    have hf' := hf.put hi' rfl
    simp only [Var.enc] at hf'
    simp (maxSteps := 1000000) -implicitDefEqProofs only [push_cast, seval, hr, hlt]
    repeat' (first | with_reducible (first | exact Keep.refl _ _ | assumption | exact byte_lt _ _ | apply Keep.alloc | (refine Keep.set ?_ ?_; rotate_left; · omega) | apply Pre.alloc | apply Pre.set | exact Pre.refl _ | exact le_alloc _ | (refine Pre.keep ?_; assumption) | (refine Pre.n ?_; assumption)) | ((with_reducible (first | refine CD.to (toVar_c _ _) ?_ | refine CQ.pure (fun _ => toVar_c _ _) ?_ | refine bcase_d (fun hb => ?_) (fun hb => ?_) | refine bcase_mk (fun hb => ?_) (fun hb => ?_))) <;> try simp (maxSteps := 1000000) -implicitDefEqProofs only [push_cast, seval, hr, hlt]) | with_reducible refine And.intro ?_ ?_ | omega | (simp only [alloc_n, set_n, kill_n]; omega) | (exfalso; omega))
    rw [wrapSucc (by omega)]
    refine ⟨(a.1 + 1, putL a.2 (a.1 * 2) [.string vs[a.1].name, .string vs[a.1].val]), by kernel_rfl, ⟨?_, ?_, hf'⟩, ?_⟩
    · simp only [putL, alloc_set]
    · show a.1 + 1 ≤ vs.length
      omega
    · show vs.length - (a.1 + 1) < vs.length - a.1
      omega
  · have hn : a.1 = vs.length := by omega
    rw [hn] at hf
    simp (maxSteps := 1000000) -implicitDefEqProofs only [push_cast, seval]
    repeat' (first | with_reducible (first | exact Keep.refl _ _ | assumption | exact byte_lt _ _ | apply Keep.alloc | (refine Keep.set ?_ ?_; rotate_left; · omega) | apply Pre.alloc | apply Pre.set | exact Pre.refl _ | exact le_alloc _ | (refine Pre.keep ?_; assumption) | (refine Pre.n ?_; assumption)) | ((with_reducible (first | refine bcase_d (fun hb => ?_) (fun hb => ?_) | refine bcase_mk (fun hb => ?_) (fun hb => ?_))) <;> try simp (maxSteps := 1000000) -implicitDefEqProofs only [push_cast, seval]) | with_reducible refine And.intro ?_ ?_ | omega | (simp only [alloc_n, set_n, kill_n]; omega) | (exfalso; omega))
    exact ⟨_, rfl, hf⟩
theorem toCellS_c (vs : List Cell) (A : Option Addr) (ca : Nat) (h : AH) (hR : RdE h A 3 Cell.enc vs) (hn : vs.length < 274877906944) :
    CC Try.prog 142 [.slice A vs.length ca] h (fun v h' => ∃ cs, v = .slice (some ⟨h.n, 0, none⟩) vs.length 3 ∧ h' = h.alloc (.cells cs .solo h.n) ∧ Filled 3 Cell.enc vs cs vs.length) := by
  refine CC.withBig (fun big => ?_)
  refine CC.ofN Try.func142 Try.ntmps142 Try.results142 rfl (by decide) (by kernel_rfl) ?_
  simp (maxSteps := 1000000) -implicitDefEqProofs only [push_cast, seval]
  repeat (with_reducible refine And.intro ?_ ?_; · (first | omega | decide))
  refine WC.loopA (by kernel_rfl) [4] [8, 9, 10, 11, 12, 13, 14, 15, 16, 17, 18, 19, 20, 21] (fun a : Nat × List Value => [.int .i64 (a.1 : Nat)]) (fun a h' => h' = h.alloc (.cells a.2 .solo h.n) ∧ a.1 ≤ vs.length ∧ Filled 3 Cell.enc vs a.2 a.1) (fun a => vs.length - a.1) (0, zerosL (vs.length * 3) [.string ⟨#[]⟩, .string ⟨#[]⟩, .string ⟨#[]⟩]) (by kernel_rfl) ⟨rfl, Nat.zero_le _, Filled.zero _⟩ ?_
  intro a g h1 hJ
  have hh := hJ.1
  have hi := hJ.2.1
  have hf := hJ.2.2
  clear hJ
  subst hh
  have pb : Pre h (h.alloc (.cells a.2 .solo h.n)) := (Pre.refl _).alloc _
  simp (maxSteps := 1000000) -implicitDefEqProofs only [push_cast, seval]
  with_reducible refine bcase_d (fun hb => ?_) (fun hb => ?_)
  · have hi' : a.1 < vs.length := by omega
    with_reducible refine hR.use big pb hi' (fun id off eA hlt hr => ?_)
    subst eA
    simp only [Cell.enc] at hr
    have hc := hf.1
    have hf' := hf.put hi' rfl
    simp only [Cell.enc] at hf'
    simp (maxSteps := 1000000) -implicitDefEqProofs only [push_cast, seval, hr, hlt]
    repeat' (first | with_reducible (first | exact Keep.refl _ _ | assumption | exact byte_lt _ _ | apply Keep.alloc | (refine Keep.set ?_ ?_; rotate_left; · omega) | apply Pre.alloc | apply Pre.set | exact Pre.refl _ | exact le_alloc _ | (refine Pre.keep ?_; assumption) | (refine Pre.n ?_; assumption)) | ((with_reducible (first | refine CD.to (toCell_c _ _) ?_ | refine CQ.pure (fun _ => toCell_c _ _) ?_ | refine bcase_d (fun hb => ?_) (fun hb => ?_) | refine bcase_mk (fun hb => ?_) (fun hb => ?_))) <;> try simp (maxSteps := 1000000) -implicitDefEqProofs only [push_cast, seval, hr, hlt]) | with_reducible refine And.intro ?_ ?_ | omega | (simp only [alloc_n, set_n, kill_n]; omega) | (exfalso; omega))
    rw [wrapSucc (by omega)]
    refine ⟨(a.1 + 1, putL a.2 (a.1 * 3) [.string vs[a.1].name, .string vs[a.1].key, .string vs[a.1].val]), by kernel_rfl, ⟨?_, ?_, hf'⟩, ?_⟩
    · simp only [putL, alloc_set]
    · show a.1 + 1 ≤ vs.length
      omega
    · show vs.length - (a.1 + 1) < vs.length - a.1
      omega
  · have hn : a.1 = vs.length := by omega
    rw [hn] at hf
    simp (maxSteps := 1000000) -implicitDefEqProofs only [push_cast, seval]
    repeat' (first | with_reducible (first | exact Keep.refl _ _ | assumption | exact byte_lt _ _ | apply Keep.alloc | (refine Keep.set ?_ ?_; rotate_left; · omega) | apply Pre.alloc | apply Pre.set | exact Pre.refl _ | exact le_alloc _ | (refine Pre.keep ?_; assumption) | (refine Pre.n ?_; assumption)) | ((with_reducible (first | refine bcase_d (fun hb => ?_) (fun hb => ?_) | refine bcase_mk (fun hb => ?_) (fun hb => ?_))) <;> try simp (maxSteps := 1000000) -implicitDefEqProofs only [push_cast, seval]) | with_reducible refine And.intro ?_ ?_ | omega | (simp only [alloc_n, set_n, kill_n]; omega) | (exfalso; omega))
    exact ⟨_, rfl, hf⟩
theorem toStore_f (s : Store) (A B : Option Addr) (ca cb : Nat) (h : AH) (hR : RdS h A B s) (hz : Sz s) :
    CC Try.prog 90 [.agg #[.slice A s.vars.length ca, .slice B s.cells.length cb, .string s.out]] h (fun v h' => ∃ A' B', v = .agg #[.slice A' s.vars.length 2, .slice B' s.cells.length 3, .string s.out] ∧ (∀ h2, (∀ i, h.n ≤ i → i < h'.n → h2.ob i = h'.ob i) → RdS h2 A' B' s) ∧ Pre h h') := by
  refine CC.withBig (fun big => ?_)
  have hA := hR.vars
  have hB := hR.cells
  have hnv := hz.nv
  have hnc := hz.nc
  refine CC.ofN Try.func90 Try.ntmps90 Try.results90 rfl (by decide) (by kernel_rfl) ?_
  simp (maxSteps := 1000000) -implicitDefEqProofs only [push_cast, seval]
  have p1 : Pre h (((h.alloc (AOb.cells [Value.slice A s.vars.length ca, Value.slice B s.cells.length cb, Value.string s.out] Stat.solo h.n)).alloc (AOb.cells [Value.slice none 0 0, Value.slice none 0 0, Value.string ⟨#[]⟩] Stat.solo (h.n + 1))).alloc (AOb.cells [Value.slice none 0 0, Value.slice none 0 0, Value.string ⟨#[]⟩] Stat.solo (h.n + 2))) := (((Pre.refl _).alloc _).alloc _).alloc _
  with_reducible refine CC.mono (toVarS_c s.vars A ca _ (hA.pre big p1) hnv) (fun v h1 hv => ?_)
  with_reducible refine Exists.elim hv (fun cs hv => ?_)
  have e1 := hv.1
  have e2 := hv.2.1
  have f1 := hv.2.2
  clear hv
  subst e1 e2
  simp (maxSteps := 1000000) -implicitDefEqProofs only [push_cast, seval]
  have p2 : Pre h (((((h.alloc (AOb.cells [Value.slice A s.vars.length ca, Value.slice B s.cells.length cb, Value.string s.out] Stat.solo h.n)).alloc (AOb.cells [Value.slice none 0 0, Value.slice none 0 0, Value.string ⟨#[]⟩] Stat.solo (h.n + 1))).alloc (AOb.cells [Value.slice none 0 0, Value.slice none 0 0, Value.string ⟨#[]⟩] Stat.solo (h.n + 2))).alloc (AOb.cells cs Stat.solo (h.n + 3))).set (h.n + 2) (AOb.cells [Value.slice (some ⟨h.n + 3, 0, none⟩) s.vars.length 2, Value.slice none 0 0, Value.string ⟨#[]⟩] Stat.solo (h.n + 2))) := (p1.alloc _).set (by omega) _
  with_reducible refine CC.mono (toCellS_c s.cells B cb _ (hB.pre big p2) hnc) (fun v h1 hv => ?_)
  with_reducible refine Exists.elim hv (fun cs2 hv => ?_)
  have e1 := hv.1
  have e2 := hv.2.1
  have f2 := hv.2.2
  clear hv
  subst e1 e2
  simp (maxSteps := 1000000) -implicitDefEqProofs only [push_cast, seval]
  refine ⟨_, _, rfl, fun h2 q2 => ⟨f1.readAt (st := Sim.Stat.solo) (ln := h.n + 3) ((q2 _ (by omega) ?_).trans ?_), f2.readAt (st := Sim.Stat.solo) (ln := h.n + 4) ((q2 _ (by omega) ?_).trans ?_)⟩, ?_⟩
  · show h.n + 3 < h.n + 5
    omega
  · simp [AH.set, AH.alloc]
  · show h.n + 4 < h.n + 5
    omega
  · simp [AH.set, AH.alloc]
  · refine Pre.set (Pre.set (p2.alloc _) ?_ _) ?_ _ <;> omega
end Go.Proofs.Ytciajhpeikemoaa
namespace Go.Proofs.Ytciajhpeikemoaa
open Go Go.Sim Go.Proofs
set_option linter.unusedSimpArgs false
set_option linter.unusedVariables false
set_option maxRecDepth 100000
set_option maxHeartbeats 1000000
theorem eqVar_c (a b : Var) (h : AH) : CD Try.prog 180 [.agg #[.string a.name, .string a.val], .agg #[.string b.name, .string b.val]] h (.bool (decide (a = b))) h := by
  refine CD.quiet ?_ (low_bool _ _)
  refine CC.ofN Try.func180 Try.ntmps180 Try.results180 rfl (by decide) (by kernel_rfl) ?_
  simp (maxSteps := 1000000) -implicitDefEqProofs only [push_cast, seval]
  repeat' (first | with_reducible (first | exact Keep.refl _ _ | assumption | exact byte_lt _ _ | apply Keep.alloc | (refine Keep.set ?_ ?_; rotate_left; · omega) | apply Pre.alloc | apply Pre.set | exact Pre.refl _ | exact le_alloc _ | (refine Pre.keep ?_; assumption) | (refine Pre.n ?_; assumption)) | ((with_reducible (first | refine bcase_d (fun hb => ?_) (fun hb => ?_) | refine bcase_mk (fun hb => ?_) (fun hb => ?_))) <;> try simp (maxSteps := 1000000) -implicitDefEqProofs only [push_cast, seval]) | with_reducible refine And.intro ?_ ?_ | omega | (simp only [alloc_n, set_n, kill_n]; omega) | (exfalso; omega))
  all_goals (obtain ⟨a1, a2⟩ := a; obtain ⟨b1, b2⟩ := b; simp_all [Var.mk.injEq])
theorem eqCell_c (a b : Cell) (h : AH) : CD Try.prog 181 [.agg #[.string a.name, .string a.key, .string a.val], .agg #[.string b.name, .string b.key, .string b.val]] h (.bool (decide (a = b))) h := by
  refine CD.quiet ?_ (low_bool _ _)
  refine CC.ofN Try.func181 Try.ntmps181 Try.results181 rfl (by decide) (by kernel_rfl) ?_
  simp (maxSteps := 1000000) -implicitDefEqProofs only [push_cast, seval]
  repeat' (first | with_reducible (first | exact Keep.refl _ _ | assumption | exact byte_lt _ _ | apply Keep.alloc | (refine Keep.set ?_ ?_; rotate_left; · omega) | apply Pre.alloc | apply Pre.set | exact Pre.refl _ | exact le_alloc _ | (refine Pre.keep ?_; assumption) | (refine Pre.n ?_; assumption)) | ((with_reducible (first | refine bcase_d (fun hb => ?_) (fun hb => ?_) | refine bcase_mk (fun hb => ?_) (fun hb => ?_))) <;> try simp (maxSteps := 1000000) -implicitDefEqProofs only [push_cast, seval]) | with_reducible refine And.intro ?_ ?_ | omega | (simp only [alloc_n, set_n, kill_n]; omega) | (exfalso; omega))
  all_goals (obtain ⟨a1, a2, a3⟩ := a; obtain ⟨b1, b2, b3⟩ := b; simp_all [Cell.mk.injEq])
theorem eqVarS_c (l m : List Var) (A B : Option Addr) (ca cb : Nat) (h : AH) (hA : RdE h A 2 Var.enc l) (hB : RdE h B 2 Var.enc m) (hl : l.length < 274877906944) (hm : m.length < 274877906944) :
    CD Try.prog 145 [.slice A l.length ca, .slice B m.length cb] h (.bool (decide (l = m))) h := by
  refine CD.withBig (fun big => ?_)
  refine CD.quiet ?_ (low_bool _ _)
  refine CC.ofN Try.func145 Try.ntmps145 Try.results145 rfl (by decide) (by kernel_rfl) ?_
  simp (maxSteps := 1000000) -implicitDefEqProofs only [push_cast, seval]
  with_reducible refine bcase_d (fun hb => ?_) (fun hb => ?_)
  rotate_left
  · simp (maxSteps := 1000000) -implicitDefEqProofs only [push_cast, seval]
    repeat' (first | with_reducible (first | exact Keep.refl _ _ | assumption | exact byte_lt _ _ | apply Keep.alloc | (refine Keep.set ?_ ?_; rotate_left; · omega) | apply Pre.alloc | apply Pre.set | exact Pre.refl _ | exact le_alloc _ | (refine Pre.keep ?_; assumption) | (refine Pre.n ?_; assumption)) | ((with_reducible (first | refine bcase_d (fun hb => ?_) (fun hb => ?_) | refine bcase_mk (fun hb => ?_) (fun hb => ?_))) <;> try simp (maxSteps := 1000000) -implicitDefEqProofs only [push_cast, seval]) | with_reducible refine And.intro ?_ ?_ | omega | (simp only [alloc_n, set_n, kill_n]; omega) | (exfalso; omega))
    have : l ≠ m := fun e => hb (by rw [e])
    simp [this]
  have hlm : l.length = m.length := by omega
  simp (maxSteps := 1000000) -implicitDefEqProofs only [push_cast, seval]
  refine WC.loopA (by kernel_rfl) [5] [4, 11, 12, 13, 14, 15, 16, 17, 18, 19, 20, 21, 22, 23, 24, 25, 26] (fun a : Nat => [.int .i64 (a : Nat)]) (fun a h' => a ≤ l.length ∧ l.take a = m.take a ∧ Pre h h') (fun a => l.length - a) 0 (by kernel_rfl) ⟨Nat.zero_le _, by simp, Pre.refl _⟩ ?_
  intro a g h1 hJ
  have hi := hJ.1
  have he := hJ.2.1
  have hp := hJ.2.2
  clear hJ
  simp (maxSteps := 1000000) -implicitDefEqProofs only [push_cast, seval]
  with_reducible refine bcase_d (fun hb => ?_) (fun hb => ?_)
  · have hi' : a < l.length := by omega
    have hj' : a < m.length := by omega
    with_reducible refine hA.use big hp hi' (fun id off eA hlt hr => ?_)
    with_reducible refine hB.use big hp hj' (fun id2 off2 eB hlt2 hr2 => ?_)
    subst eA
    subst eB
    simp only [Var.enc] at hr hr2
    simp (maxSteps := 1000000) -implicitDefEqProofs only [push_cast, seval, hr, hlt, hr2, hlt2]
    refine WC.draw' (by kernel_rfl) (by kernel_rfl) (.q 0 (.q 1 (.q 2 (.q 3 (.q 4 (.q 5 (.q 6 (.q 7 (.c 8 (.q 9 (.done))))))))))) (by kernel_rfl) ?_
    simp (maxSteps := 1000000) -implicitDefEqProofs only [push_cast, seval, hr, hlt, hr2, hlt2]
    repeat' (first | with_reducible (first | exact Keep.refl _ _ | assumption | exact byte_lt _ _ | apply Keep.alloc | (refine Keep.set ?_ ?_; rotate_left; · omega) | apply Pre.alloc | apply Pre.set | exact Pre.refl _ | exact le_alloc _ | (refine Pre.keep ?_; assumption) | (refine Pre.n ?_; assumption)) | ((with_reducible (first | refine CD.to (eqVar_c _ _ _) ?_ | refine CQ.pure (fun _ => eqVar_c _ _ _) ?_ | refine bcase_d (fun hb => ?_) (fun hb => ?_) | refine bcase_mk (fun hb => ?_) (fun hb => ?_))) <;> try simp (maxSteps := 1000000) -implicitDefEqProofs only [push_cast, seval, hr, hlt, hr2, hlt2]) | with_reducible refine And.intro ?_ ?_ | omega | (simp only [alloc_n, set_n, kill_n]; omega) | (exfalso; omega))
    · rw [wrapSucc (by omega)]
      refine ⟨a + 1, by kernel_rfl, ⟨by show a + 1 ≤ l.length; omega, take_next he hi' hj' ?_, hp⟩, by show l.length - (a + 1) < l.length - a; omega⟩
      simpa using hb
    · have : l ≠ m := fun e => by subst e; simp at hb
      simp [this]
  · have hn : a = l.length := by omega
    subst hn
    simp (maxSteps := 1000000) -implicitDefEqProofs only [push_cast, seval]
    repeat' (first | with_reducible (first | exact Keep.refl _ _ | assumption | exact byte_lt _ _ | apply Keep.alloc | (refine Keep.set ?_ ?_; rotate_left; · omega) | apply Pre.alloc | apply Pre.set | exact Pre.refl _ | exact le_alloc _ | (refine Pre.keep ?_; assumption) | (refine Pre.n ?_; assumption)) | ((with_reducible (first | refine bcase_d (fun hb => ?_) (fun hb => ?_) | refine bcase_mk (fun hb => ?_) (fun hb => ?_))) <;> try simp (maxSteps := 1000000) -implicitDefEqProofs only [push_cast, seval]) | with_reducible refine And.intro ?_ ?_ | omega | (simp only [alloc_n, set_n, kill_n]; omega) | (exfalso; omega))
    have := take_full he hlm
    simp [this]
theorem eqCellS_c (l m : List Cell) (A B : Option Addr) (ca cb : Nat) (h : AH) (hA : RdE h A 3 Cell.enc l) (hB : RdE h B 3 Cell.enc m) (hl : l.length < 274877906944) (hm : m.length < 274877906944) :
    CD Try.prog 146 [.slice A l.length ca, .slice B m.length cb] h (.bool (decide (l = m))) h := by
  refine CD.withBig (fun big => ?_)
  refine CD.quiet ?_ (low_bool _ _)
  refine CC.ofN Try.func146 Try.ntmps146 Try.results146 rfl (by decide) (by kernel_rfl) ?_
  simp (maxSteps := 1000000) -implicitDefEqProofs only [push_cast, seval]
  with_reducible refine bcase_d (fun hb => ?_) (fun hb => ?_)
  rotate_left
  · simp (maxSteps := 1000000) -implicitDefEqProofs only [push_cast, seval]
    repeat' (first | with_reducible (first | exact Keep.refl _ _ | assumption | exact byte_lt _ _ | apply Keep.alloc | (refine Keep.set ?_ ?_; rotate_left; · omega) | apply Pre.alloc | apply Pre.set | exact Pre.refl _ | exact le_alloc _ | (refine Pre.keep ?_; assumption) | (refine Pre.n ?_; assumption)) | ((with_reducible (first | refine bcase_d (fun hb => ?_) (fun hb => ?_) | refine bcase_mk (fun hb => ?_) (fun hb => ?_))) <;> try simp (maxSteps := 1000000) -implicitDefEqProofs only [push_cast, seval]) | with_reducible refine And.intro ?_ ?_ | omega | (simp only [alloc_n, set_n, kill_n]; omega) | (exfalso; omega))
    have : l ≠ m := fun e => hb (by rw [e])
    simp [this]
  have hlm : l.length = m.length := by omega
  simp (maxSteps := 1000000) -implicitDefEqProofs only [push_cast, seval]
  refine WC.loopA (by kernel_rfl) [5] [4, 11, 12, 13, 14, 15, 16, 17, 18, 19, 20, 21, 22, 23, 24, 25, 26] (fun a : Nat => [.int .i64 (a : Nat)]) (fun a h' => a ≤ l.length ∧ l.take a = m.take a ∧ Pre h h') (fun a => l.length - a) 0 (by kernel_rfl) ⟨Nat.zero_le _, by simp, Pre.refl _⟩ ?_
  intro a g h1 hJ
  have hi := hJ.1
  have he := hJ.2.1
  have hp := hJ.2.2
  clear hJ
  simp (maxSteps := 1000000) -implicitDefEqProofs only [push_cast, seval]
  with_reducible refine bcase_d (fun hb => ?_) (fun hb => ?_)
  · have hi' : a < l.length := by omega
    have hj' : a < m.length := by omega
    with_reducible refine hA.use big hp hi' (fun id off eA hlt hr => ?_)
    with_reducible refine hB.use big hp hj' (fun id2 off2 eB hlt2 hr2 => ?_)
    subst eA
    subst eB
    simp only [Cell.enc] at hr hr2
    simp (maxSteps := 1000000) -implicitDefEqProofs only [push_cast, seval, hr, hlt, hr2, hlt2]
    refine WC.draw' (by kernel_rfl) (by kernel_rfl) (.q 0 (.q 1 (.q 2 (.q 3 (.q 4 (.q 5 (.q 6 (.q 7 (.c 8 (.q 9 (.done))))))))))) (by kernel_rfl) ?_
    simp (maxSteps := 1000000) -implicitDefEqProofs only [push_cast, seval, hr, hlt, hr2, hlt2]
    repeat' (first | with_reducible (first | exact Keep.refl _ _ | assumption | exact byte_lt _ _ | apply Keep.alloc | (refine Keep.set ?_ ?_; rotate_left; · omega) | apply Pre.alloc | apply Pre.set | exact Pre.refl _ | exact le_alloc _ | (refine Pre.keep ?_; assumption) | (refine Pre.n ?_; assumption)) | ((with_reducible (first | refine CD.to (eqCell_c _ _ _) ?_ | refine CQ.pure (fun _ => eqCell_c _ _ _) ?_ | refine bcase_d (fun hb => ?_) (fun hb => ?_) | refine bcase_mk (fun hb => ?_) (fun hb => ?_))) <;> try simp (maxSteps := 1000000) -implicitDefEqProofs only [push_cast, seval, hr, hlt, hr2, hlt2]) | with_reducible refine And.intro ?_ ?_ | omega | (simp only [alloc_n, set_n, kill_n]; omega) | (exfalso; omega))
    · rw [wrapSucc (by omega)]
      refine ⟨a + 1, by kernel_rfl, ⟨by show a + 1 ≤ l.length; omega, take_next he hi' hj' ?_, hp⟩, by show l.length - (a + 1) < l.length - a; omega⟩
      simpa using hb
    · have : l ≠ m := fun e => by subst e; simp at hb
      simp [this]
  · have hn : a = l.length := by omega
    subst hn
    simp (maxSteps := 1000000) -implicitDefEqProofs only [push_cast, seval]
    repeat' (first | with_reducible (first | exact Keep.refl _ _ | assumption | exact byte_lt _ _ | apply Keep.alloc | (refine Keep.set ?_ ?_; rotate_left; · omega) | apply Pre.alloc | apply Pre.set | exact Pre.refl _ | exact le_alloc _ | (refine Pre.keep ?_; assumption) | (refine Pre.n ?_; assumption)) | ((with_reducible (first | refine bcase_d (fun hb => ?_) (fun hb => ?_) | refine bcase_mk (fun hb => ?_) (fun hb => ?_))) <;> try simp (maxSteps := 1000000) -implicitDefEqProofs only [push_cast, seval]) | with_reducible refine And.intro ?_ ?_ | omega | (simp only [alloc_n, set_n, kill_n]; omega) | (exfalso; omega))
    have := take_full he hlm
    simp [this]
theorem eqStore_c (s t : Store) (A B C D : Option Addr) (ca cb cc cd : Nat) (h : AH) (hs : RdS h A B s) (ht : RdS h C D t) (zs : Sz s) (zt : Sz t) :
    CD Try.prog 94 [.agg #[.slice A s.vars.length ca, .slice B s.cells.length cb, .string s.out], .agg #[.slice C t.vars.length cc, .slice D t.cells.length cd, .string t.out]] h (.bool (decide (s = t))) h := by
  refine CD.withBig (fun big => ?_)
  refine CD.quiet ?_ (low_bool _ _)
  have pb : Pre h ((h.alloc (AOb.cells [Value.slice A s.vars.length ca, Value.slice B s.cells.length cb, Value.string s.out] Stat.solo h.n)).alloc (AOb.cells [Value.slice C t.vars.length cc, Value.slice D t.cells.length cd, Value.string t.out] Stat.solo (h.n + 1))) := ((Pre.refl _).alloc _).alloc _
  have hV := eqVarS_c s.vars t.vars A C ca cc _ (hs.vars.pre big pb) (ht.vars.pre big pb) zs.nv zt.nv
  have hC := eqCellS_c s.cells t.cells B D cb cd _ (hs.cells.pre big pb) (ht.cells.pre big pb) zs.nc zt.nc
  refine CC.ofN Try.func94 Try.ntmps94 Try.results94 rfl (by decide) (by kernel_rfl) ?_
  simp (maxSteps := 1000000) -implicitDefEqProofs only [push_cast, seval]
  repeat' (first | with_reducible (first | exact Keep.refl _ _ | assumption | exact byte_lt _ _ | apply Keep.alloc | (refine Keep.set ?_ ?_; rotate_left; · omega) | apply Pre.alloc | apply Pre.set | exact Pre.refl _ | exact le_alloc _ | (refine Pre.keep ?_; assumption) | (refine Pre.n ?_; assumption)) | ((with_reducible (first | refine CD.to (hV) ?_ | refine CQ.pure (fun _ => hV) ?_ | refine CD.to (hC) ?_ | refine CQ.pure (fun _ => hC) ?_ | refine bcase_d (fun hb => ?_) (fun hb => ?_) | refine bcase_mk (fun hb => ?_) (fun hb => ?_))) <;> try simp (maxSteps := 1000000) -implicitDefEqProofs only [push_cast, seval]) | with_reducible refine And.intro ?_ ?_ | omega | (simp only [alloc_n, set_n, kill_n]; omega) | (exfalso; omega))
  all_goals (obtain ⟨a1, a2, a3⟩ := s; obtain ⟨b1, b2, b3⟩ := t; simp_all [Store.mk.injEq])
end Go.Proofs.Ytciajhpeikemoaa
namespace Go.Proofs.Ytciajhpeikemoaa
open Go Go.Sim Go.Proofs
set_option linter.unusedSimpArgs false
set_option linter.unusedVariables false
set_option maxRecDepth 100000
set_option maxHeartbeats 1000000
theorem all10 (a0 a1 a2 a3 a4 a5 a6 a7 a8 a9 : Value) (e0 : one a0 = true) (e1 : one a1 = true) (e2 : one a2 = true) (e3 : one a3 = true) (e4 : one a4 = true) (e5 : one a5 = true) (e6 : one a6 = true) (e7 : one a7 = true) (e8 : one a8 = true) (e9 : one a9 = true) : #[a0, a1, a2, a3, a4, a5, a6, a7, a8, a9].all one 0 10 = true := by simp [e0, e1, e2, e3, e4, e5, e6, e7, e8, e9]
attribute [push_cast] all10
structure Job where
  code : Cod
  store : Store
  names : List ByteArray
  lines : List ByteArray
  deriving DecidableEq
/-- A reading of a job. -/
structure RdJ (h : AH) (vA vB vC vD vE vF : Value) (j : Job) : Prop where
  code : RdC h vA vB j.code
  store : ∃ C cC D cD, vC = .slice C j.store.vars.length cC ∧ vD = .slice D j.store.cells.length cD ∧ ∀ h2, Pre h h2 → RdS h2 C D j.store
  names : RdV h vE 1 encS j.names
  lines : RdV h vF 1 encS j.lines
theorem RdJ.pre {h h' : AH} {vA vB vC vD vE vF : Value} {j : Job} (r : RdJ h vA vB vC vD vE vF j) (p : Pre h h') : RdJ h' vA vB vC vD vE vF j := ⟨r.code.pre p, by obtain ⟨C, cC, D, cD, e1, e2, f⟩ := r.store; exact ⟨C, cC, D, cD, e1, e2, fun h2 q => f h2 (p.trans q)⟩, r.names.pre p, r.lines.pre p⟩
/-- Sizes of a job. -/
structure SzJ (j : Job) : Prop where
  code : SzC j.code
  store : Sz j.store
  ct : j.code.texts.length ≤ 1048576
  cl : j.code.list.length ≤ 1048576
  names : ∀ x ∈ j.names, x.size ≤ maxLen
  lines : ∀ x ∈ j.lines, x.size ≤ maxLen
  nn : j.names.length ≤ 1048576
  nl : j.lines.length ≤ 1048576
def jobOk (j : Job) : Bool := j.names.all letters && j.lines.all (fun s => decide (s.size ≤ 200)) && (codeOk j.code && storeOk j.store && decide (j.names.length ≤ 20) && decide (j.lines.length ≤ 20))
theorem jobOk_name {j : Job} {x : ByteArray} (hx : x ∈ j.names) (e : letters x = false) : jobOk j = false := by
  have : j.names.all letters = false := by
    rw [List.all_eq_false]; exact ⟨x, hx, by simp [e]⟩
  simp [jobOk, this]
theorem jobOk_line {j : Job} {x : ByteArray} (hx : x ∈ j.lines) (e : 200 < x.size) : jobOk j = false := by
  have : j.lines.all (fun s => decide (s.size ≤ 200)) = false := by
    rw [List.all_eq_false]; exact ⟨x, hx, by simp; omega⟩
  simp [jobOk, this]
theorem jobOk_rest {j : Job} (hn : ∀ i (hi : i < j.names.length), letters j.names[i] = true) (hl : ∀ i (hi : i < j.lines.length), j.lines[i].size ≤ 200) : jobOk j = (codeOk j.code && storeOk j.store && decide (j.names.length ≤ 20) && decide (j.lines.length ≤ 20)) := by
  have a : j.names.all letters = true := List.all_eq_true.2 (fun x hx => by obtain ⟨i, hi, rfl⟩ := List.getElem_of_mem hx; exact hn i hi)
  have b : j.lines.all (fun s => decide (s.size ≤ 200)) = true := List.all_eq_true.2 (fun x hx => by obtain ⟨i, hi, rfl⟩ := List.getElem_of_mem hx; simpa using hl i hi)
  rw [jobOk, a, b, Bool.true_and, Bool.true_and]
theorem JobOk_i (j : Job) (vA vB vC vD vE vF : Value) (h : AH) (r : RdJ h vA vB vC vD vE vF j) (hz : SzJ j) :
    CD Try.prog 38 [.agg #[vA, vB, .int .i64 j.code.bgn, .int .i64 j.code.line, .int .i64 j.code.fin, vC, vD, .string j.store.out, vE, vF]] h (.bool (jobOk j)) h := by
  refine CD.withBig (fun big => ?_)
  refine CD.quiet ?_ (low_bool _ _)
  have y1 := r.code.texts.one
  have y2 := r.code.list.one
  have hC := fun (h3 : AH) (p : Pre h h3) => CodeOk_i j.code vA vB h3 (r.code.pre p) hz.ct hz.cl hz.code.texts
  obtain ⟨C, cC, D, cD, rfl, rfl, hSt⟩ := r.store
  obtain ⟨E, cE, rfl, hE⟩ := r.names.rde (fun _ => rfl)
  obtain ⟨F, cF, rfl, hF⟩ := r.lines.rde (fun _ => rfl)
  have hS := fun (h3 : AH) (p : Pre h h3) => StoreOk_i j.store C D cC cD h3 (hSt h3 p) hz.store
  have nn := hz.nn
  have nl := hz.nl
  have zn := hz.names
  have zl := hz.lines
  have pA : Pre h (h.alloc (.cells [vA, vB, .int .i64 j.code.bgn, .int .i64 j.code.line, .int .i64 j.code.fin, .slice C j.store.vars.length cC, .slice D j.store.cells.length cD, .string j.store.out, .slice E j.names.length cE, .slice F j.lines.length cF] .solo h.n)) := (Pre.refl h).alloc _
  have c0 : (h.alloc (.cells [vA, vB, .int .i64 j.code.bgn, .int .i64 j.code.line, .int .i64 j.code.fin, .slice C j.store.vars.length cC, .slice D j.store.cells.length cD, .string j.store.out, .slice E j.names.length cE, .slice F j.lines.length cF] .solo h.n)).ob h.n = _ := alloc_same _
  have n0 : (h.alloc (.cells [vA, vB, .int .i64 j.code.bgn, .int .i64 j.code.line, .int .i64 j.code.fin, .slice C j.store.vars.length cC, .slice D j.store.cells.length cD, .string j.store.out, .slice E j.names.length cE, .slice F j.lines.length cF] .solo h.n)).n = h.n + 1 := rfl
  refine CC.ofN Try.func38 Try.ntmps38 Try.results38 rfl (by decide) (by kernel_rfl) ?_
  simp (maxSteps := 1000000) -implicitDefEqProofs only [push_cast, seval, y1, y2]
  generalize (h.alloc (.cells [vA, vB, .int .i64 j.code.bgn, .int .i64 j.code.line, .int .i64 j.code.fin, .slice C j.store.vars.length cC, .slice D j.store.cells.length cD, .string j.store.out, .slice E j.names.length cE, .slice F j.lines.length cF] .solo h.n)) = h0 at *
  have l0 : h.n < h0.n := by omega
  try simp (maxSteps := 1000000) -implicitDefEqProofs only [push_cast, seval, c0, rd_of c0, rd1_of c0, l0]
  refine WC.loopA (by kernel_rfl) [10] [2, 4, 11, 12, 13, 14, 15, 16, 17] (fun i : Nat => [.int .i64 i]) (fun i h' => (i ≤ j.names.length ∧ ∀ k (hk : k < j.names.length), k < i → letters j.names[k] = true) ∧ Pre h0 h') (fun i => j.names.length - i) 0 (by kernel_rfl) ⟨⟨Nat.zero_le _, fun k hk h0 => by omega⟩, Pre.refl _⟩ ?_
  intro i g h1 hJ
  have hi := hJ.1.1
  have hj := hJ.1.2
  have p1 := hJ.2
  clear hJ
  have c1 : h1.ob h.n = _ := (p1.ob _ l0).trans c0
  have l1 : h.n < h1.n := Nat.lt_of_lt_of_le l0 p1.n
  have pre1 := pA.trans p1
  simp (maxSteps := 1000000) -implicitDefEqProofs only [push_cast, seval, c1, rd_of c1, rd1_of c1, l1]
  with_reducible refine bcase_d (fun hb => ?_) (fun hb => ?_)
  · have hi' : i < j.names.length := by omega
    have hq := zn j.names[i] (List.getElem_mem hi')
    have hno := fun e => jobOk_name (j := j) (List.getElem_mem hi') e
    have hst : letters j.names[i] = true → ∀ k (hk : k < j.names.length), k < i + 1 → letters j.names[k] = true := fun e k hk h2 => by
      by_cases e2 : k = i
      · subst e2; exact e
      · exact hj k hk (by omega)
    with_reducible refine hE.use big pre1 hi' (fun id off eA hlt hr => ?_)
    subst eA
    generalize j.names[i] = T at *
    simp only [encS, Nat.mul_one] at hr
    have r0 := rd_1 hr
    simp (maxSteps := 1000000) -implicitDefEqProofs only [push_cast, seval, c1, rd_of c1, rd1_of c1, l1, hr, r0, hlt, Nat.mul_one]
    repeat (with_reducible refine And.intro ?_ ?_; · (first | omega | decide))
    with_reducible refine CD.to (isLetters_c T hq _) ?_
    cases hT : letters T
    · simp (maxSteps := 1000000) -implicitDefEqProofs only [push_cast, seval, c1, rd_of c1, rd1_of c1, l1]
      rw [hno hT]
      exact ⟨rfl, pre1.keep⟩
    · simp (maxSteps := 1000000) -implicitDefEqProofs only [push_cast, seval, c1, rd_of c1, rd1_of c1, l1]
      rw [wrapSucc (by omega)]
      exact ⟨i + 1, by kernel_rfl, ⟨⟨by omega, hst hT⟩, p1⟩, by omega⟩
  have ei : i = j.names.length := by omega
  subst ei
  simp (maxSteps := 1000000) -implicitDefEqProofs only [push_cast, seval, c1, rd_of c1, rd1_of c1, l1]
  refine WC.loopA (by kernel_rfl) [21] [2, 6, 22, 23, 24, 25, 26, 27, 28] (fun i : Nat => [.int .i64 i]) (fun i h' => (i ≤ j.lines.length ∧ ∀ k (hk : k < j.lines.length), k < i → j.lines[k].size ≤ 200) ∧ Pre h1 h') (fun i => j.lines.length - i) 0 (by kernel_rfl) ⟨⟨Nat.zero_le _, fun k hk h0 => by omega⟩, Pre.refl _⟩ ?_
  clear hb hi
  intro i g2 h2 hJ
  have hi := hJ.1.1
  have hj2 := hJ.1.2
  have p2 := hJ.2
  clear hJ
  have c2 : h2.ob h.n = _ := (p2.ob _ l1).trans c1
  have l2 : h.n < h2.n := Nat.lt_of_lt_of_le l1 p2.n
  have pre2 := pre1.trans p2
  simp (maxSteps := 1000000) -implicitDefEqProofs only [push_cast, seval, c2, rd_of c2, rd1_of c2, l2]
  with_reducible refine bcase_d (fun hb => ?_) (fun hb => ?_)
  · have hi' : i < j.lines.length := by omega
    have hq := zl j.lines[i] (List.getElem_mem hi')
    have hno := fun e => jobOk_line (j := j) (List.getElem_mem hi') e
    have hst : j.lines[i].size ≤ 200 → ∀ k (hk : k < j.lines.length), k < i + 1 → j.lines[k].size ≤ 200 := fun e k hk h2 => by
      by_cases e2 : k = i
      · subst e2; exact e
      · exact hj2 k hk (by omega)
    with_reducible refine hF.use big pre2 hi' (fun id off eA hlt hr => ?_)
    subst eA
    generalize j.lines[i] = T at *
    simp only [encS, Nat.mul_one] at hr
    have r0 := rd_1 hr
    simp (maxSteps := 1000000) -implicitDefEqProofs only [push_cast, seval, c2, rd_of c2, rd1_of c2, l2, hr, r0, hlt, Nat.mul_one]
    repeat (with_reducible refine And.intro ?_ ?_; · (first | omega | decide))
    with_reducible refine bcase_d (fun hT => ?_) (fun hT => ?_)
    · simp (maxSteps := 1000000) -implicitDefEqProofs only [push_cast, seval, c2, rd_of c2, rd1_of c2, l2]
      rw [hno (by omega)]
      exact ⟨rfl, pre2.keep⟩
    · simp (maxSteps := 1000000) -implicitDefEqProofs only [push_cast, seval, c2, rd_of c2, rd1_of c2, l2]
      rw [wrapSucc (by omega)]
      exact ⟨i + 1, by kernel_rfl, ⟨⟨by omega, hst (by omega)⟩, p2⟩, by omega⟩
  have ei : i = j.lines.length := by omega
  subst ei
  rw [jobOk_rest (fun i hi => hj i hi hi) (fun i hi => hj2 i hi hi)]
  simp (maxSteps := 1000000) -implicitDefEqProofs only [push_cast, seval, c2, rd_of c2, rd1_of c2, l2, y1, y2]
  with_reducible refine CD.to (hC _ pre2) ?_
  cases hG : codeOk j.code
  · simp (maxSteps := 1000000) -implicitDefEqProofs only [push_cast, seval, c2, rd_of c2, rd1_of c2, l2, y1, y2]
    exact pre2.keep
  · simp (maxSteps := 1000000) -implicitDefEqProofs only [push_cast, seval, c2, rd_of c2, rd1_of c2, l2, y1, y2]
    with_reducible refine CD.to (hS _ pre2) ?_
    cases hG2 : storeOk j.store
    · simp (maxSteps := 1000000) -implicitDefEqProofs only [push_cast, seval, c2, rd_of c2, rd1_of c2, l2, y1, y2]
      exact pre2.keep
    · simp (maxSteps := 1000000) -implicitDefEqProofs only [push_cast, seval, c2, rd_of c2, rd1_of c2, l2, y1, y2]
      with_reducible refine bcase_d (fun hx => ?_) (fun hx => ?_)
      · have hx' : j.names.length ≤ 20 := by omega
        simp (maxSteps := 1000000) -implicitDefEqProofs only [push_cast, seval, c2, rd_of c2, rd1_of c2, l2, y1, y2]
        refine ⟨?_, pre2.keep⟩
        rw [decide_eq_true hx']
        congr 1
        rw [Bool.eq_iff_iff]; simp; omega
      · have hx' : ¬ j.names.length ≤ 20 := by omega
        simp (maxSteps := 1000000) -implicitDefEqProofs only [push_cast, seval, c2, rd_of c2, rd1_of c2, l2, y1, y2]
        refine ⟨?_, pre2.keep⟩
        rw [decide_eq_false hx']
        rfl
theorem JobOk_s (j : Job) (vA vB vC vD vE vF : Value) (h : AH) (r : RdJ h vA vB vC vD vE vF j) (hz : SzJ j) :
    CD Try.prog 36 [.agg #[vA, vB, .int .i64 j.code.bgn, .int .i64 j.code.line, .int .i64 j.code.fin, vC, vD, .string j.store.out, vE, vF]] h (.bool (jobOk j)) h := by
  refine CD.withBig (fun big => ?_)
  refine CD.quiet ?_ (low_bool _ _)
  have y1 := r.code.texts.one
  have y2 := r.code.list.one
  have hC := fun (h3 : AH) (p : Pre h h3) => CodeOk_s j.code vA vB h3 (r.code.pre p) hz.ct hz.cl hz.code.texts
  obtain ⟨C, cC, D, cD, rfl, rfl, hSt⟩ := r.store
  obtain ⟨E, cE, rfl, hE⟩ := r.names.rde (fun _ => rfl)
  obtain ⟨F, cF, rfl, hF⟩ := r.lines.rde (fun _ => rfl)
  have hS := fun (h3 : AH) (p : Pre h h3) => StoreOk_s j.store C D cC cD h3 (hSt h3 p) hz.store
  have nn := hz.nn
  have nl := hz.nl
  have zn := hz.names
  have zl := hz.lines
  have pA : Pre h (h.alloc (.cells [vA, vB, .int .i64 j.code.bgn, .int .i64 j.code.line, .int .i64 j.code.fin, .slice C j.store.vars.length cC, .slice D j.store.cells.length cD, .string j.store.out, .slice E j.names.length cE, .slice F j.lines.length cF] .solo h.n)) := (Pre.refl h).alloc _
  have c0 : (h.alloc (.cells [vA, vB, .int .i64 j.code.bgn, .int .i64 j.code.line, .int .i64 j.code.fin, .slice C j.store.vars.length cC, .slice D j.store.cells.length cD, .string j.store.out, .slice E j.names.length cE, .slice F j.lines.length cF] .solo h.n)).ob h.n = _ := alloc_same _
  have n0 : (h.alloc (.cells [vA, vB, .int .i64 j.code.bgn, .int .i64 j.code.line, .int .i64 j.code.fin, .slice C j.store.vars.length cC, .slice D j.store.cells.length cD, .string j.store.out, .slice E j.names.length cE, .slice F j.lines.length cF] .solo h.n)).n = h.n + 1 := rfl
  refine CC.ofN Try.func36 Try.ntmps36 Try.results36 rfl (by decide) (by kernel_rfl) ?_
  simp (maxSteps := 1000000) -implicitDefEqProofs only [push_cast, seval, y1, y2]
  generalize (h.alloc (.cells [vA, vB, .int .i64 j.code.bgn, .int .i64 j.code.line, .int .i64 j.code.fin, .slice C j.store.vars.length cC, .slice D j.store.cells.length cD, .string j.store.out, .slice E j.names.length cE, .slice F j.lines.length cF] .solo h.n)) = h0 at *
  have l0 : h.n < h0.n := by omega
  try simp (maxSteps := 1000000) -implicitDefEqProofs only [push_cast, seval, c0, rd_of c0, rd1_of c0, l0]
  refine WC.loopA (by kernel_rfl) [3] [2, 5, 6, 7, 8, 9, 10, 11, 12, 13, 14, 15, 16, 17, 18] (fun i : Nat => [.int .i64 i]) (fun i h' => (i ≤ j.names.length ∧ ∀ k (hk : k < j.names.length), k < i → letters j.names[k] = true) ∧ Pre h0 h') (fun i => j.names.length - i) 0 (by kernel_rfl) ⟨⟨Nat.zero_le _, fun k hk h0 => by omega⟩, Pre.refl _⟩ ?_
  intro i g h1 hJ
  have hi := hJ.1.1
  have hj := hJ.1.2
  have p1 := hJ.2
  clear hJ
  have c1 : h1.ob h.n = _ := (p1.ob _ l0).trans c0
  have l1 : h.n < h1.n := Nat.lt_of_lt_of_le l0 p1.n
  have pre1 := pA.trans p1
  simp (maxSteps := 1000000) -implicitDefEqProofs only [push_cast, seval, c1, rd_of c1, rd1_of c1, l1]
  with_reducible refine bcase_d (fun hb => ?_) (fun hb => ?_)
  · have hi' : i < j.names.length := by omega
    have hq := zn j.names[i] (List.getElem_mem hi')
    have hno := fun e => jobOk_name (j := j) (List.getElem_mem hi') e
    have hst : letters j.names[i] = true → ∀ k (hk : k < j.names.length), k < i + 1 → letters j.names[k] = true := fun e k hk h2 => by
      by_cases e2 : k = i
      · subst e2; exact e
      · exact hj k hk (by omega)
    with_reducible refine hE.use big pre1 hi' (fun id off eA hlt hr => ?_)
    subst eA
    generalize j.names[i] = T at *
    simp only [encS, Nat.mul_one] at hr
    have r0 := rd_1 hr
    simp (maxSteps := 1000000) -implicitDefEqProofs only [push_cast, seval, c1, rd_of c1, rd1_of c1, l1, hr, r0, hlt, Nat.mul_one]
    repeat (with_reducible refine And.intro ?_ ?_; · (first | omega | decide))
    with_reducible refine CD.to (l07Name_c2 T hq _) ?_
    cases hT : letters T
    · simp (maxSteps := 1000000) -implicitDefEqProofs only [push_cast, seval, c1, rd_of c1, rd1_of c1, l1]
      rw [hno hT]
      exact ⟨rfl, pre1.keep⟩
    · simp (maxSteps := 1000000) -implicitDefEqProofs only [push_cast, seval, c1, rd_of c1, rd1_of c1, l1]
      rw [wrapSucc (by omega)]
      exact ⟨i + 1, by kernel_rfl, ⟨⟨by omega, hst hT⟩, p1⟩, by omega⟩
  have ei : i = j.names.length := by omega
  subst ei
  simp (maxSteps := 1000000) -implicitDefEqProofs only [push_cast, seval, c1, rd_of c1, rd1_of c1, l1]
  refine WC.loopA (by kernel_rfl) [4] [2, 19, 20, 21, 22, 23, 24, 25, 26, 27, 28, 29, 30, 31, 32] (fun i : Nat => [.int .i64 i]) (fun i h' => (i ≤ j.lines.length ∧ ∀ k (hk : k < j.lines.length), k < i → j.lines[k].size ≤ 200) ∧ Pre h1 h') (fun i => j.lines.length - i) 0 (by kernel_rfl) ⟨⟨Nat.zero_le _, fun k hk h0 => by omega⟩, Pre.refl _⟩ ?_
  clear hb hi
  intro i g2 h2 hJ
  have hi := hJ.1.1
  have hj2 := hJ.1.2
  have p2 := hJ.2
  clear hJ
  have c2 : h2.ob h.n = _ := (p2.ob _ l1).trans c1
  have l2 : h.n < h2.n := Nat.lt_of_lt_of_le l1 p2.n
  have pre2 := pre1.trans p2
  simp (maxSteps := 1000000) -implicitDefEqProofs only [push_cast, seval, c2, rd_of c2, rd1_of c2, l2]
  with_reducible refine bcase_d (fun hb => ?_) (fun hb => ?_)
  · have hi' : i < j.lines.length := by omega
    have hq := zl j.lines[i] (List.getElem_mem hi')
    have hno := fun e => jobOk_line (j := j) (List.getElem_mem hi') e
    have hst : j.lines[i].size ≤ 200 → ∀ k (hk : k < j.lines.length), k < i + 1 → j.lines[k].size ≤ 200 := fun e k hk h2 => by
      by_cases e2 : k = i
      · subst e2; exact e
      · exact hj2 k hk (by omega)
    with_reducible refine hF.use big pre2 hi' (fun id off eA hlt hr => ?_)
    subst eA
    generalize j.lines[i] = T at *
    simp only [encS, Nat.mul_one] at hr
    have r0 := rd_1 hr
    simp (maxSteps := 1000000) -implicitDefEqProofs only [push_cast, seval, c2, rd_of c2, rd1_of c2, l2, hr, r0, hlt, Nat.mul_one]
    repeat (with_reducible refine And.intro ?_ ?_; · (first | omega | decide))
    with_reducible refine bcase_d (fun hT => ?_) (fun hT => ?_)
    · simp (maxSteps := 1000000) -implicitDefEqProofs only [push_cast, seval, c2, rd_of c2, rd1_of c2, l2]
      rw [hno (by omega)]
      exact ⟨rfl, pre2.keep⟩
    · simp (maxSteps := 1000000) -implicitDefEqProofs only [push_cast, seval, c2, rd_of c2, rd1_of c2, l2]
      rw [wrapSucc (by omega)]
      exact ⟨i + 1, by kernel_rfl, ⟨⟨by omega, hst (by omega)⟩, p2⟩, by omega⟩
  have ei : i = j.lines.length := by omega
  subst ei
  rw [jobOk_rest (fun i hi => hj i hi hi) (fun i hi => hj2 i hi hi)]
  simp (maxSteps := 1000000) -implicitDefEqProofs only [push_cast, seval, c2, rd_of c2, rd1_of c2, l2, y1, y2]
  with_reducible refine CD.to (hC _ pre2) ?_
  cases hG : codeOk j.code
  · simp (maxSteps := 1000000) -implicitDefEqProofs only [push_cast, seval, c2, rd_of c2, rd1_of c2, l2, y1, y2]
    exact pre2.keep
  · simp (maxSteps := 1000000) -implicitDefEqProofs only [push_cast, seval, c2, rd_of c2, rd1_of c2, l2, y1, y2]
    with_reducible refine CD.to (hS _ pre2) ?_
    cases hG2 : storeOk j.store
    · simp (maxSteps := 1000000) -implicitDefEqProofs only [push_cast, seval, c2, rd_of c2, rd1_of c2, l2, y1, y2]
      exact pre2.keep
    · simp (maxSteps := 1000000) -implicitDefEqProofs only [push_cast, seval, c2, rd_of c2, rd1_of c2, l2, y1, y2]
      with_reducible refine bcase_d (fun hx => ?_) (fun hx => ?_)
      · have hx' : j.names.length ≤ 20 := by omega
        simp (maxSteps := 1000000) -implicitDefEqProofs only [push_cast, seval, c2, rd_of c2, rd1_of c2, l2, y1, y2]
        refine ⟨?_, pre2.keep⟩
        rw [decide_eq_true hx']
        congr 1
        rw [Bool.eq_iff_iff]; simp; omega
      · have hx' : ¬ j.names.length ≤ 20 := by omega
        simp (maxSteps := 1000000) -implicitDefEqProofs only [push_cast, seval, c2, rd_of c2, rd1_of c2, l2, y1, y2]
        refine ⟨?_, pre2.keep⟩
        rw [decide_eq_false hx']
        rfl
end Go.Proofs.Ytciajhpeikemoaa
namespace Go.Proofs.Ytciajhpeikemoaa
open Go Go.Sim Go.Proofs
set_option linter.unusedSimpArgs false
set_option linter.unusedVariables false
set_option maxRecDepth 100000
set_option maxHeartbeats 1000000
theorem nameI (n : Int) {G : Prop} (k : ∀ N, n = N → G) : G := k n rfl
theorem lt_of_if {x : Int} {l w : Int} (h : (if l - w < 0 then -1 else l - w) = x) : (x < 0 → l - w < 0) ∧ (¬ x < 0 → x = l - w) := by split at h <;> omega
def jobW (j : Job) : Nat := codeW j.code + storeW j.store + (j.names.length + txtW j.names j.names.length) + (j.lines.length + txtW j.lines j.lines.length)
structure SzJ0 (j : Job) : Prop where
  code : SzC j.code
  store : SzA j.store
  names : ∀ x ∈ j.names, x.size ≤ maxLen
  lines : ∀ x ∈ j.lines, x.size ≤ maxLen
  nn : j.names.length ≤ maxLen
  nl : j.lines.length ≤ maxLen
theorem SzJ0.sz {j : Job} (a : SzJ0 j) (h : jobW j ≤ 1048576) : SzJ j := by
  unfold jobW at h
  have := SzC.small (c := j.code) (by omega)
  exact ⟨a.code, a.store.sz (by omega), this.1, this.2, a.names, a.lines, by omega, by omega⟩
theorem szJob_c (j : Job) (vA vB vC vD vE vF : Value) (l : Int) (h : AH) (r : RdJ h vA vB vC vD vE vF j) (hz : SzJ0 j) (hl : 0 ≤ l ∧ l ≤ 1048576) :
    CD Try.prog 35 [.agg #[vA, vB, .int .i64 j.code.bgn, .int .i64 j.code.line, .int .i64 j.code.fin, vC, vD, .string j.store.out, vE, vF], .int .i64 l] h (.int .i64 (if l - jobW j < 0 then -1 else l - jobW j)) h := by
  refine CD.withBig (fun big => ?_)
  refine CD.quiet ?_ (low_int _ _ _)
  have y1 := r.code.texts.one
  have y2 := r.code.list.one
  obtain ⟨C, cC, D, cD, rfl, rfl, hSt⟩ := r.store
  obtain ⟨E, cE, rfl, hE⟩ := r.names.rde (fun _ => rfl)
  obtain ⟨F, cF, rfl, hF⟩ := r.lines.rde (fun _ => rfl)
  have rC := r.code
  have pA : Pre h (h.alloc (.cells [vA, vB, .int .i64 j.code.bgn, .int .i64 j.code.line, .int .i64 j.code.fin, .slice C j.store.vars.length cC, .slice D j.store.cells.length cD, .string j.store.out, .slice E j.names.length cE, .slice F j.lines.length cF] .solo h.n)) := (Pre.refl h).alloc _
  have c0 : (h.alloc (.cells [vA, vB, .int .i64 j.code.bgn, .int .i64 j.code.line, .int .i64 j.code.fin, .slice C j.store.vars.length cC, .slice D j.store.cells.length cD, .string j.store.out, .slice E j.names.length cE, .slice F j.lines.length cF] .solo h.n)).ob h.n = _ := alloc_same _
  have n0 : (h.alloc (.cells [vA, vB, .int .i64 j.code.bgn, .int .i64 j.code.line, .int .i64 j.code.fin, .slice C j.store.vars.length cC, .slice D j.store.cells.length cD, .string j.store.out, .slice E j.names.length cE, .slice F j.lines.length cF] .solo h.n)).n = h.n + 1 := rfl
  refine CC.ofN Try.func35 Try.ntmps35 Try.results35 rfl (by decide) (by kernel_rfl) ?_
  simp (maxSteps := 1000000) -implicitDefEqProofs only [push_cast, seval, y1, y2]
  generalize (h.alloc (.cells [vA, vB, .int .i64 j.code.bgn, .int .i64 j.code.line, .int .i64 j.code.fin, .slice C j.store.vars.length cC, .slice D j.store.cells.length cD, .string j.store.out, .slice E j.names.length cE, .slice F j.lines.length cF] .solo h.n)) = h0 at *
  have l0 : h.n < h0.n := by omega
  have hw : jobW j = codeW j.code + storeW j.store + (j.names.length + txtW j.names j.names.length) + (j.lines.length + txtW j.lines j.lines.length) := rfl
  with_reducible refine CD.to (szCode_c j.code vA vB l h0 (rC.pre pA) hz.code hl) ?_
  with_reducible refine nameI (if l - codeW j.code < 0 then -1 else l - codeW j.code) (fun l1 h1 => ?_)
  have g1 := lt_of_if h1
  rw [h1]
  simp (maxSteps := 1000000) -implicitDefEqProofs only [push_cast, seval]
  with_reducible refine bcase_d (fun hb1 => ?_) (fun hb1 => ?_)
  · simp (maxSteps := 1000000) -implicitDefEqProofs only [push_cast, seval]
    refine ⟨?_, pA.keep⟩
    rw [if_pos (by omega)]
  simp (maxSteps := 1000000) -implicitDefEqProofs only [push_cast, seval, c0, rd_of c0, rd1_of c0, l0]
  with_reducible refine CD.to (szStore_c j.store C D cC cD l1 h0 (hSt h0 pA) hz.store (by omega)) ?_
  with_reducible refine nameI (if l1 - storeW j.store < 0 then -1 else l1 - storeW j.store) (fun l2 h2 => ?_)
  have g2 := lt_of_if h2
  rw [h2]
  simp (maxSteps := 1000000) -implicitDefEqProofs only [push_cast, seval]
  with_reducible refine bcase_d (fun hb2 => ?_) (fun hb2 => ?_)
  · simp (maxSteps := 1000000) -implicitDefEqProofs only [push_cast, seval]
    refine ⟨?_, pA.keep⟩
    rw [if_pos (by omega)]
  simp (maxSteps := 1000000) -implicitDefEqProofs only [push_cast, seval, c0, rd_of c0, rd1_of c0, l0]
  with_reducible refine CD.to (szStringS_c j.names E cE l2 h0 (hE.pre big pA) hz.names hz.nn (by omega)) ?_
  rw [show l2 - (j.names.length : Int) - txtW j.names j.names.length = l2 - ((j.names.length + txtW j.names j.names.length : Nat) : Int) by omega]
  with_reducible refine nameI (if l2 - ((j.names.length + txtW j.names j.names.length : Nat) : Int) < 0 then -1 else l2 - ((j.names.length + txtW j.names j.names.length : Nat) : Int)) (fun l3 h3 => ?_)
  have g3 := lt_of_if h3
  rw [h3]
  simp (maxSteps := 1000000) -implicitDefEqProofs only [push_cast, seval]
  with_reducible refine bcase_d (fun hb3 => ?_) (fun hb3 => ?_)
  · simp (maxSteps := 1000000) -implicitDefEqProofs only [push_cast, seval]
    refine ⟨?_, pA.keep⟩
    rw [if_pos (by omega)]
  simp (maxSteps := 1000000) -implicitDefEqProofs only [push_cast, seval, c0, rd_of c0, rd1_of c0, l0]
  with_reducible refine CD.to (szStringS_c j.lines F cF l3 h0 (hF.pre big pA) hz.lines hz.nl (by omega)) ?_
  rw [show l3 - (j.lines.length : Int) - txtW j.lines j.lines.length = l3 - ((j.lines.length + txtW j.lines j.lines.length : Nat) : Int) by omega]
  with_reducible refine nameI (if l3 - ((j.lines.length + txtW j.lines j.lines.length : Nat) : Int) < 0 then -1 else l3 - ((j.lines.length + txtW j.lines j.lines.length : Nat) : Int)) (fun l4 h4 => ?_)
  have g4 := lt_of_if h4
  rw [h4]
  simp (maxSteps := 1000000) -implicitDefEqProofs only [push_cast, seval]
  with_reducible refine bcase_d (fun hb4 => ?_) (fun hb4 => ?_)
  · simp (maxSteps := 1000000) -implicitDefEqProofs only [push_cast, seval]
    refine ⟨?_, pA.keep⟩
    rw [if_pos (by omega)]
  · simp (maxSteps := 1000000) -implicitDefEqProofs only [push_cast, seval]
    refine ⟨?_, pA.keep⟩
    rw [if_neg (by omega)]
    congr 1
    omega
theorem toJob_c (j : Job) (vA vB vC vD vE vF : Value) (h : AH) (r : RdJ h vA vB vC vD vE vF j) (hz : SzJ j) :
    CC Try.prog 37 [.agg #[vA, vB, .int .i64 j.code.bgn, .int .i64 j.code.line, .int .i64 j.code.fin, vC, vD, .string j.store.out, vE, vF]] h (fun v h' => ∃ wA wB wC wD wE wF, v = .agg #[wA, wB, .int .i64 j.code.bgn, .int .i64 j.code.line, .int .i64 j.code.fin, wC, wD, .string j.store.out, wE, wF] ∧ RdJ h' wA wB wC wD wE wF j ∧ Pre h h') := by
  refine CC.withBig (fun big => ?_)
  have y1 := r.code.texts.one
  have y2 := r.code.list.one
  obtain ⟨C, cC, D, cD, rfl, rfl, hSt⟩ := r.store
  obtain ⟨E, cE, rfl, hE⟩ := r.names.rde (fun _ => rfl)
  obtain ⟨F, cF, rfl, hF⟩ := r.lines.rde (fun _ => rfl)
  have rC := r.code
  refine CC.ofN Try.func37 Try.ntmps37 Try.results37 rfl (by decide) (by kernel_rfl) ?_
  simp (maxSteps := 1000000) -implicitDefEqProofs only [push_cast, seval, y1, y2]
  have p0 : Pre h (((h.alloc (.cells [vA, vB, .int .i64 j.code.bgn, .int .i64 j.code.line, .int .i64 j.code.fin, .slice C j.store.vars.length cC, .slice D j.store.cells.length cD, .string j.store.out, .slice E j.names.length cE, .slice F j.lines.length cF] .solo h.n)).alloc (.cells [.slice none 0 0, .slice none 0 0, .int .i64 0, .int .i64 0, .int .i64 0, .slice none 0 0, .slice none 0 0, .string ⟨#[]⟩, .slice none 0 0, .slice none 0 0] .solo (h.n + 1))).alloc (.cells [.slice none 0 0, .slice none 0 0, .int .i64 0, .int .i64 0, .int .i64 0, .slice none 0 0, .slice none 0 0, .string ⟨#[]⟩, .slice none 0 0, .slice none 0 0] .solo (h.n + 2))) := (((Pre.refl h).alloc _).alloc _).alloc _
  have a0 : (((h.alloc (.cells [vA, vB, .int .i64 j.code.bgn, .int .i64 j.code.line, .int .i64 j.code.fin, .slice C j.store.vars.length cC, .slice D j.store.cells.length cD, .string j.store.out, .slice E j.names.length cE, .slice F j.lines.length cF] .solo h.n)).alloc (.cells [.slice none 0 0, .slice none 0 0, .int .i64 0, .int .i64 0, .int .i64 0, .slice none 0 0, .slice none 0 0, .string ⟨#[]⟩, .slice none 0 0, .slice none 0 0] .solo (h.n + 1))).alloc (.cells [.slice none 0 0, .slice none 0 0, .int .i64 0, .int .i64 0, .int .i64 0, .slice none 0 0, .slice none 0 0, .string ⟨#[]⟩, .slice none 0 0, .slice none 0 0] .solo (h.n + 2))).ob h.n = AOb.cells [vA, vB, .int .i64 j.code.bgn, .int .i64 j.code.line, .int .i64 j.code.fin, .slice C j.store.vars.length cC, .slice D j.store.cells.length cD, .string j.store.out, .slice E j.names.length cE, .slice F j.lines.length cF] .solo h.n := (by (try simp (maxSteps := 1000000) -implicitDefEqProofs only [push_cast, seval, rdOb]); try rfl)
  have b0 : (((h.alloc (.cells [vA, vB, .int .i64 j.code.bgn, .int .i64 j.code.line, .int .i64 j.code.fin, .slice C j.store.vars.length cC, .slice D j.store.cells.length cD, .string j.store.out, .slice E j.names.length cE, .slice F j.lines.length cF] .solo h.n)).alloc (.cells [.slice none 0 0, .slice none 0 0, .int .i64 0, .int .i64 0, .int .i64 0, .slice none 0 0, .slice none 0 0, .string ⟨#[]⟩, .slice none 0 0, .slice none 0 0] .solo (h.n + 1))).alloc (.cells [.slice none 0 0, .slice none 0 0, .int .i64 0, .int .i64 0, .int .i64 0, .slice none 0 0, .slice none 0 0, .string ⟨#[]⟩, .slice none 0 0, .slice none 0 0] .solo (h.n + 2))).ob (h.n + 1) = AOb.cells [.slice none 0 0, .slice none 0 0, .int .i64 0, .int .i64 0, .int .i64 0, .slice none 0 0, .slice none 0 0, .string ⟨#[]⟩, .slice none 0 0, .slice none 0 0] .solo (h.n + 1) := (by (try simp (maxSteps := 1000000) -implicitDefEqProofs only [push_cast, seval, rdOb]); try rfl)
  have c0 : (((h.alloc (.cells [vA, vB, .int .i64 j.code.bgn, .int .i64 j.code.line, .int .i64 j.code.fin, .slice C j.store.vars.length cC, .slice D j.store.cells.length cD, .string j.store.out, .slice E j.names.length cE, .slice F j.lines.length cF] .solo h.n)).alloc (.cells [.slice none 0 0, .slice none 0 0, .int .i64 0, .int .i64 0, .int .i64 0, .slice none 0 0, .slice none 0 0, .string ⟨#[]⟩, .slice none 0 0, .slice none 0 0] .solo (h.n + 1))).alloc (.cells [.slice none 0 0, .slice none 0 0, .int .i64 0, .int .i64 0, .int .i64 0, .slice none 0 0, .slice none 0 0, .string ⟨#[]⟩, .slice none 0 0, .slice none 0 0] .solo (h.n + 2))).ob (h.n + 2) = AOb.cells [.slice none 0 0, .slice none 0 0, .int .i64 0, .int .i64 0, .int .i64 0, .slice none 0 0, .slice none 0 0, .string ⟨#[]⟩, .slice none 0 0, .slice none 0 0] .solo (h.n + 2) := (by (try simp (maxSteps := 1000000) -implicitDefEqProofs only [push_cast, seval, rdOb]); try rfl)
  have n0 : (((h.alloc (.cells [vA, vB, .int .i64 j.code.bgn, .int .i64 j.code.line, .int .i64 j.code.fin, .slice C j.store.vars.length cC, .slice D j.store.cells.length cD, .string j.store.out, .slice E j.names.length cE, .slice F j.lines.length cF] .solo h.n)).alloc (.cells [.slice none 0 0, .slice none 0 0, .int .i64 0, .int .i64 0, .int .i64 0, .slice none 0 0, .slice none 0 0, .string ⟨#[]⟩, .slice none 0 0, .slice none 0 0] .solo (h.n + 1))).alloc (.cells [.slice none 0 0, .slice none 0 0, .int .i64 0, .int .i64 0, .int .i64 0, .slice none 0 0, .slice none 0 0, .string ⟨#[]⟩, .slice none 0 0, .slice none 0 0] .solo (h.n + 2))).n = h.n + 3 := rfl
  generalize (((h.alloc (.cells [vA, vB, .int .i64 j.code.bgn, .int .i64 j.code.line, .int .i64 j.code.fin, .slice C j.store.vars.length cC, .slice D j.store.cells.length cD, .string j.store.out, .slice E j.names.length cE, .slice F j.lines.length cF] .solo h.n)).alloc (.cells [.slice none 0 0, .slice none 0 0, .int .i64 0, .int .i64 0, .int .i64 0, .slice none 0 0, .slice none 0 0, .string ⟨#[]⟩, .slice none 0 0, .slice none 0 0] .solo (h.n + 1))).alloc (.cells [.slice none 0 0, .slice none 0 0, .int .i64 0, .int .i64 0, .int .i64 0, .slice none 0 0, .slice none 0 0, .string ⟨#[]⟩, .slice none 0 0, .slice none 0 0] .solo (h.n + 2))) = H0 at *
  with_reducible refine CC.mono (toCode_c j.code vA vB _ (rC.pre p0) (by have := hz.ct; omega) (by have := hz.cl; omega)) (fun v H1 hv => ?_)
  with_reducible refine Exists.elim hv (fun wA hw => ?_)
  with_reducible refine Exists.elim hw (fun wB hw => ?_)
  have e1 := hw.1
  have rc := hw.2.1
  have p1 := hw.2.2.1
  have fr := hw.2.2.2
  clear hv hw
  subst e1
  have a1 := (p1.ob h.n (by omega)).trans a0
  have b1 := (p1.ob (h.n + 1) (by omega)).trans b0
  have c1 := (p1.ob (h.n + 2) (by omega)).trans c0
  have n1 := p1.n
  have z1 := rc.texts.one
  have z2 := rc.list.one
  have l1 : h.n < H1.n := by omega
  have l2 : h.n + 2 < H1.n := by omega
  simp (maxSteps := 1000000) -implicitDefEqProofs only [push_cast, seval, a1, rd_of a1, rd1_of a1, c1, rd_of c1, rd1_of c1, l1, l2, z1, z2]
  have p2 : Pre h (H1.set (h.n + 2) (.cells [wA, wB, .int .i64 j.code.bgn, .int .i64 j.code.line, .int .i64 j.code.fin, .slice none 0 0, .slice none 0 0, .string ⟨#[]⟩, .slice none 0 0, .slice none 0 0] .solo (h.n + 2))) := (p0.trans p1).set (by omega) _
  have a2 := (set_ne (h := H1) (o := .cells [wA, wB, .int .i64 j.code.bgn, .int .i64 j.code.line, .int .i64 j.code.fin, .slice none 0 0, .slice none 0 0, .string ⟨#[]⟩, .slice none 0 0, .slice none 0 0] .solo (h.n + 2)) (show h.n ≠ h.n + 2 by omega)).trans a1
  have b2 := (set_ne (h := H1) (o := .cells [wA, wB, .int .i64 j.code.bgn, .int .i64 j.code.line, .int .i64 j.code.fin, .slice none 0 0, .slice none 0 0, .string ⟨#[]⟩, .slice none 0 0, .slice none 0 0] .solo (h.n + 2)) (show h.n + 1 ≠ h.n + 2 by omega)).trans b1
  have c2 : (H1.set (h.n + 2) (.cells [wA, wB, .int .i64 j.code.bgn, .int .i64 j.code.line, .int .i64 j.code.fin, .slice none 0 0, .slice none 0 0, .string ⟨#[]⟩, .slice none 0 0, .slice none 0 0] .solo (h.n + 2))).ob (h.n + 2) = _ := set_same _ _
  have rc2 : RdC (H1.set (h.n + 2) (.cells [wA, wB, .int .i64 j.code.bgn, .int .i64 j.code.line, .int .i64 j.code.fin, .slice none 0 0, .slice none 0 0, .string ⟨#[]⟩, .slice none 0 0, .slice none 0 0] .solo (h.n + 2))) wA wB j.code := ⟨rc.texts.keep (Nat.le_refl _) (fun i e => set_ne _ (by have := fr i (.inl e); omega)), rc.list.keep (Nat.le_refl _) (fun i e => set_ne _ (by have := fr i (.inr e); omega))⟩
  have n2 : (H1.set (h.n + 2) (.cells [wA, wB, .int .i64 j.code.bgn, .int .i64 j.code.line, .int .i64 j.code.fin, .slice none 0 0, .slice none 0 0, .string ⟨#[]⟩, .slice none 0 0, .slice none 0 0] .solo (h.n + 2))).n = H1.n := rfl
  clear rc
  generalize (H1.set (h.n + 2) (.cells [wA, wB, .int .i64 j.code.bgn, .int .i64 j.code.line, .int .i64 j.code.fin, .slice none 0 0, .slice none 0 0, .string ⟨#[]⟩, .slice none 0 0, .slice none 0 0] .solo (h.n + 2))) = H2 at *
  with_reducible refine CC.mono (toStore_f j.store C D cC cD _ (hSt _ p2) hz.store) (fun v H3 hv => ?_)
  with_reducible refine Exists.elim hv (fun C2 hw => ?_)
  with_reducible refine Exists.elim hw (fun D2 hw => ?_)
  have e1 := hw.1
  have rs := hw.2.1
  have p3 := hw.2.2
  clear hv hw
  subst e1
  have a3 := (p3.ob h.n (by omega)).trans a2
  have b3 := (p3.ob (h.n + 1) (by omega)).trans b2
  have c3 := (p3.ob (h.n + 2) (by omega)).trans c2
  have n3 := p3.n
  have l1 : h.n < H3.n := by omega
  have l2 : h.n + 2 < H3.n := by omega
  simp (maxSteps := 1000000) -implicitDefEqProofs only [push_cast, seval, a3, rd_of a3, rd1_of a3, c3, rd_of c3, rd1_of c3, l1, l2, z1, z2]
  have p4 : Pre h (H3.set (h.n + 2) (.cells [wA, wB, .int .i64 j.code.bgn, .int .i64 j.code.line, .int .i64 j.code.fin, .slice C2 j.store.vars.length 2, .slice D2 j.store.cells.length 3, .string j.store.out, .slice none 0 0, .slice none 0 0] .solo (h.n + 2))) := (p2.trans p3).set (by omega) _
  have a4 := (set_ne (h := H3) (o := .cells [wA, wB, .int .i64 j.code.bgn, .int .i64 j.code.line, .int .i64 j.code.fin, .slice C2 j.store.vars.length 2, .slice D2 j.store.cells.length 3, .string j.store.out, .slice none 0 0, .slice none 0 0] .solo (h.n + 2)) (show h.n ≠ h.n + 2 by omega)).trans a3
  have b4 := (set_ne (h := H3) (o := .cells [wA, wB, .int .i64 j.code.bgn, .int .i64 j.code.line, .int .i64 j.code.fin, .slice C2 j.store.vars.length 2, .slice D2 j.store.cells.length 3, .string j.store.out, .slice none 0 0, .slice none 0 0] .solo (h.n + 2)) (show h.n + 1 ≠ h.n + 2 by omega)).trans b3
  have c4 : (H3.set (h.n + 2) (.cells [wA, wB, .int .i64 j.code.bgn, .int .i64 j.code.line, .int .i64 j.code.fin, .slice C2 j.store.vars.length 2, .slice D2 j.store.cells.length 3, .string j.store.out, .slice none 0 0, .slice none 0 0] .solo (h.n + 2))).ob (h.n + 2) = _ := set_same _ _
  have rc4 : RdC (H3.set (h.n + 2) (.cells [wA, wB, .int .i64 j.code.bgn, .int .i64 j.code.line, .int .i64 j.code.fin, .slice C2 j.store.vars.length 2, .slice D2 j.store.cells.length 3, .string j.store.out, .slice none 0 0, .slice none 0 0] .solo (h.n + 2))) wA wB j.code := ⟨(rc2.pre p3).texts.keep (Nat.le_refl _) (fun i e => set_ne _ (by have := fr i (.inl e); omega)), (rc2.pre p3).list.keep (Nat.le_refl _) (fun i e => set_ne _ (by have := fr i (.inr e); omega))⟩
  have rs4 : ∀ h2 : AH, (∀ i, H2.n ≤ i → i < H3.n → h2.ob i = (H3.set (h.n + 2) (.cells [wA, wB, .int .i64 j.code.bgn, .int .i64 j.code.line, .int .i64 j.code.fin, .slice C2 j.store.vars.length 2, .slice D2 j.store.cells.length 3, .string j.store.out, .slice none 0 0, .slice none 0 0] .solo (h.n + 2))).ob i) → RdS h2 C2 D2 j.store := fun h2 q => rs h2 (fun i x1 x2 => (q i x1 x2).trans (set_ne _ (by omega)))
  have n4 : (H3.set (h.n + 2) (.cells [wA, wB, .int .i64 j.code.bgn, .int .i64 j.code.line, .int .i64 j.code.fin, .slice C2 j.store.vars.length 2, .slice D2 j.store.cells.length 3, .string j.store.out, .slice none 0 0, .slice none 0 0] .solo (h.n + 2))).n = H3.n := rfl
  clear rc2 rs
  generalize (H3.set (h.n + 2) (.cells [wA, wB, .int .i64 j.code.bgn, .int .i64 j.code.line, .int .i64 j.code.fin, .slice C2 j.store.vars.length 2, .slice D2 j.store.cells.length 3, .string j.store.out, .slice none 0 0, .slice none 0 0] .solo (h.n + 2))) = H4 at *
  with_reducible refine CC.mono (toStringS_c j.names E cE _ (hE.pre big p4) (by have := hz.nn; omega)) (fun v h1 hv => ?_)
  with_reducible refine Exists.elim hv (fun cs hw => ?_)
  have e1 := hw.1
  have e2 := hw.2.1
  have f1 := hw.2.2
  clear hv hw
  subst e1 e2
  have p5 : Pre H4 (H4.alloc (.cells cs .solo H4.n)) := (Pre.refl _).alloc _
  have d5 : (H4.alloc (.cells cs .solo H4.n)).ob H4.n = _ := alloc_same _
  have n5 : (H4.alloc (.cells cs .solo H4.n)).n = H4.n + 1 := rfl
  generalize (H4.alloc (.cells cs .solo H4.n)) = H5 at *
  have a5 := (p5.ob h.n (by omega)).trans a4
  have b5 := (p5.ob (h.n + 1) (by omega)).trans b4
  have c5 := (p5.ob (h.n + 2) (by omega)).trans c4
  have l1 : h.n < H5.n := by omega
  have l2 : h.n + 2 < H5.n := by omega
  simp (maxSteps := 1000000) -implicitDefEqProofs only [push_cast, seval, a5, rd_of a5, rd1_of a5, c5, rd_of c5, rd1_of c5, l1, l2, z1, z2]
  have p6 : Pre h (H5.set (h.n + 2) (.cells [wA, wB, .int .i64 j.code.bgn, .int .i64 j.code.line, .int .i64 j.code.fin, .slice C2 j.store.vars.length 2, .slice D2 j.store.cells.length 3, .string j.store.out, .slice (some ⟨H4.n, 0, none⟩) j.names.length 1, .slice none 0 0] .solo (h.n + 2))) := (p4.trans p5).set (by omega) _
  have a6 := (set_ne (h := H5) (o := .cells [wA, wB, .int .i64 j.code.bgn, .int .i64 j.code.line, .int .i64 j.code.fin, .slice C2 j.store.vars.length 2, .slice D2 j.store.cells.length 3, .string j.store.out, .slice (some ⟨H4.n, 0, none⟩) j.names.length 1, .slice none 0 0] .solo (h.n + 2)) (show h.n ≠ h.n + 2 by omega)).trans a5
  have b6 := (set_ne (h := H5) (o := .cells [wA, wB, .int .i64 j.code.bgn, .int .i64 j.code.line, .int .i64 j.code.fin, .slice C2 j.store.vars.length 2, .slice D2 j.store.cells.length 3, .string j.store.out, .slice (some ⟨H4.n, 0, none⟩) j.names.length 1, .slice none 0 0] .solo (h.n + 2)) (show h.n + 1 ≠ h.n + 2 by omega)).trans b5
  have c6 : (H5.set (h.n + 2) (.cells [wA, wB, .int .i64 j.code.bgn, .int .i64 j.code.line, .int .i64 j.code.fin, .slice C2 j.store.vars.length 2, .slice D2 j.store.cells.length 3, .string j.store.out, .slice (some ⟨H4.n, 0, none⟩) j.names.length 1, .slice none 0 0] .solo (h.n + 2))).ob (h.n + 2) = _ := set_same _ _
  have d6 := (set_ne (h := H5) (o := .cells [wA, wB, .int .i64 j.code.bgn, .int .i64 j.code.line, .int .i64 j.code.fin, .slice C2 j.store.vars.length 2, .slice D2 j.store.cells.length 3, .string j.store.out, .slice (some ⟨H4.n, 0, none⟩) j.names.length 1, .slice none 0 0] .solo (h.n + 2)) (show H4.n ≠ h.n + 2 by omega)).trans d5
  have rc6 : RdC (H5.set (h.n + 2) (.cells [wA, wB, .int .i64 j.code.bgn, .int .i64 j.code.line, .int .i64 j.code.fin, .slice C2 j.store.vars.length 2, .slice D2 j.store.cells.length 3, .string j.store.out, .slice (some ⟨H4.n, 0, none⟩) j.names.length 1, .slice none 0 0] .solo (h.n + 2))) wA wB j.code := ⟨(rc4.pre p5).texts.keep (Nat.le_refl _) (fun i e => set_ne _ (by have := fr i (.inl e); omega)), (rc4.pre p5).list.keep (Nat.le_refl _) (fun i e => set_ne _ (by have := fr i (.inr e); omega))⟩
  have rs6 : ∀ h2 : AH, (∀ i, H2.n ≤ i → i < H3.n → h2.ob i = (H5.set (h.n + 2) (.cells [wA, wB, .int .i64 j.code.bgn, .int .i64 j.code.line, .int .i64 j.code.fin, .slice C2 j.store.vars.length 2, .slice D2 j.store.cells.length 3, .string j.store.out, .slice (some ⟨H4.n, 0, none⟩) j.names.length 1, .slice none 0 0] .solo (h.n + 2))).ob i) → RdS h2 C2 D2 j.store := fun h2 q => rs4 h2 (fun i x1 x2 => (q i x1 x2).trans ((set_ne _ (by omega)).trans (p5.ob i (by omega))))
  have n6 : (H5.set (h.n + 2) (.cells [wA, wB, .int .i64 j.code.bgn, .int .i64 j.code.line, .int .i64 j.code.fin, .slice C2 j.store.vars.length 2, .slice D2 j.store.cells.length 3, .string j.store.out, .slice (some ⟨H4.n, 0, none⟩) j.names.length 1, .slice none 0 0] .solo (h.n + 2))).n = H5.n := rfl
  clear rc4 rs4
  generalize (H5.set (h.n + 2) (.cells [wA, wB, .int .i64 j.code.bgn, .int .i64 j.code.line, .int .i64 j.code.fin, .slice C2 j.store.vars.length 2, .slice D2 j.store.cells.length 3, .string j.store.out, .slice (some ⟨H4.n, 0, none⟩) j.names.length 1, .slice none 0 0] .solo (h.n + 2))) = H6 at *
  with_reducible refine CC.mono (toStringS_c j.lines F cF _ (hF.pre big p6) (by have := hz.nl; omega)) (fun v h1 hv => ?_)
  with_reducible refine Exists.elim hv (fun cs2 hw => ?_)
  have e1 := hw.1
  have e2 := hw.2.1
  have f2 := hw.2.2
  clear hv hw
  subst e1 e2
  have p7 : Pre H6 (H6.alloc (.cells cs2 .solo H6.n)) := (Pre.refl _).alloc _
  have d7 := (p7.ob H4.n (by omega)).trans d6
  have k7 : (H6.alloc (.cells cs2 .solo H6.n)).ob H6.n = _ := alloc_same _
  have n7 : (H6.alloc (.cells cs2 .solo H6.n)).n = H6.n + 1 := rfl
  generalize (H6.alloc (.cells cs2 .solo H6.n)) = H7 at *
  have a7 := (p7.ob h.n (by omega)).trans a6
  have b7 := (p7.ob (h.n + 1) (by omega)).trans b6
  have c7 := (p7.ob (h.n + 2) (by omega)).trans c6
  have l1 : h.n < H7.n := by omega
  have l2 : h.n + 2 < H7.n := by omega
  have l3 : h.n + 1 < H7.n := by omega
  simp (maxSteps := 1000000) -implicitDefEqProofs only [push_cast, seval, a7, rd_of a7, rd1_of a7, c7, rd_of c7, rd1_of c7, b7, rd_of b7, rd1_of b7, l1, l2, l3, z1, z2]
  have rc8 := rc6.pre p7
  refine ⟨_, _, _, _, _, _, rfl, ⟨⟨rc8.texts.keep (Nat.le_refl _) (fun i e => by have := fr i (.inl e); rw [set_ne _ (by omega), set_ne _ (by omega)]), rc8.list.keep (Nat.le_refl _) (fun i e => by have := fr i (.inr e); rw [set_ne _ (by omega), set_ne _ (by omega)])⟩, ⟨_, _, _, _, rfl, rfl, fun h2 q => rs6 h2 (fun i x1 x2 => (q.ob i (by show i < H7.n; omega)).trans (by rw [set_ne _ (by omega), set_ne _ (by omega)]; exact p7.ob i (by omega)))⟩, f1.rdv (fun _ => rfl) (st := .solo) (ln := H4.n) (by rw [set_ne _ (by omega), set_ne _ (by omega)]; exact d7) (by show H4.n < H7.n; omega), f2.rdv (fun _ => rfl) (st := .solo) (ln := H6.n) (by rw [set_ne _ (by omega), set_ne _ (by omega)]; exact k7) (by show H6.n < H7.n; omega)⟩, ((p6.trans p7).set (by omega) _).set (by omega) _⟩
end Go.Proofs.Ytciajhpeikemoaa
namespace Go.Proofs.Ytciajhpeikemoaa
open Go Go.Sim Go.Proofs
set_option linter.unusedSimpArgs false
set_option linter.unusedVariables false
set_option maxRecDepth 100000
set_option maxHeartbeats 1000000
theorem eqJob_c (j : Job) (vA vB vC vD vE vF wA wB wC wD wE wF : Value) (h : AH) (r : RdJ h vA vB vC vD vE vF j) (s : RdJ h wA wB wC wD wE wF j) (hz : SzJ j) :
    CD Try.prog 39 [.agg #[vA, vB, .int .i64 j.code.bgn, .int .i64 j.code.line, .int .i64 j.code.fin, vC, vD, .string j.store.out, vE, vF], .agg #[wA, wB, .int .i64 j.code.bgn, .int .i64 j.code.line, .int .i64 j.code.fin, wC, wD, .string j.store.out, wE, wF]] h (.bool true) h := by
  refine CD.withBig (fun big => ?_)
  refine CD.quiet ?_ (low_bool _ _)
  have y1 := r.code.texts.one
  have y2 := r.code.list.one
  have y3 := s.code.texts.one
  have y4 := s.code.list.one
  have rC := r.code
  have sC := s.code
  obtain ⟨C, cC, D, cD, rfl, rfl, hSt⟩ := r.store
  obtain ⟨E, cE, rfl, hE⟩ := r.names.rde (fun _ => rfl)
  obtain ⟨F, cF, rfl, hF⟩ := r.lines.rde (fun _ => rfl)
  obtain ⟨C', cC', D', cD', rfl, rfl, hSt'⟩ := s.store
  obtain ⟨E', cE', rfl, hE'⟩ := s.names.rde (fun _ => rfl)
  obtain ⟨F', cF', rfl, hF'⟩ := s.lines.rde (fun _ => rfl)
  have z1 := hz.ct
  have z2 := hz.cl
  have z3 := hz.nn
  have z4 := hz.nl
  have pb : Pre h ((h.alloc (.cells [vA, vB, .int .i64 j.code.bgn, .int .i64 j.code.line, .int .i64 j.code.fin, .slice C j.store.vars.length cC, .slice D j.store.cells.length cD, .string j.store.out, .slice E j.names.length cE, .slice F j.lines.length cF] .solo h.n)).alloc (.cells [wA, wB, .int .i64 j.code.bgn, .int .i64 j.code.line, .int .i64 j.code.fin, .slice C' j.store.vars.length cC', .slice D' j.store.cells.length cD', .string j.store.out, .slice E' j.names.length cE', .slice F' j.lines.length cF'] .solo (h.n + 1))) := ((Pre.refl _).alloc _).alloc _
  have k1 := eqCode_c j.code vA vB wA wB _ (rC.pre pb) (sC.pre pb) (by omega) (by omega)
  have k2 := eqStore_c j.store j.store C D C' D' cC cD cC' cD' _ (hSt _ pb) (hSt' _ pb) hz.store hz.store
  have k3 := eqStringS_c j.names j.names E E' cE cE' _ (hE.pre big pb) (hE'.pre big pb) (by omega) (by omega)
  have k4 := eqStringS_c j.lines j.lines F F' cF cF' _ (hF.pre big pb) (hF'.pre big pb) (by omega) (by omega)
  rw [decide_eq_true rfl] at k2 k3 k4
  refine CC.ofN Try.func39 Try.ntmps39 Try.results39 rfl (by decide) (by kernel_rfl) ?_
  simp (maxSteps := 1000000) -implicitDefEqProofs only [push_cast, seval, y1, y2, y3, y4]
  repeat' (first | with_reducible (first | exact Keep.refl _ _ | assumption | exact byte_lt _ _ | apply Keep.alloc | (refine Keep.set ?_ ?_; rotate_left; · omega) | apply Pre.alloc | apply Pre.set | exact Pre.refl _ | exact le_alloc _ | (refine Pre.keep ?_; assumption) | (refine Pre.n ?_; assumption)) | ((with_reducible (first | refine CD.to (k1) ?_ | refine CQ.pure (fun _ => k1) ?_ | refine CD.to (k2) ?_ | refine CQ.pure (fun _ => k2) ?_ | refine CD.to (k3) ?_ | refine CQ.pure (fun _ => k3) ?_ | refine CD.to (k4) ?_ | refine CQ.pure (fun _ => k4) ?_ | refine bcase_d (fun hb => ?_) (fun hb => ?_) | refine bcase_mk (fun hb => ?_) (fun hb => ?_))) <;> try simp (maxSteps := 1000000) -implicitDefEqProofs only [push_cast, seval, y1, y2, y3, y4]) | with_reducible refine And.intro ?_ ?_ | omega | (simp only [alloc_n, set_n, kill_n]; omega) | (exfalso; omega))
theorem RdJ.ones {h : AH} {vA vB vC vD vE vF : Value} {j : Job} (r : RdJ h vA vB vC vD vE vF j) : Sim.one vA = true ∧ Sim.one vB = true ∧ Sim.one vC = true ∧ Sim.one vD = true ∧ Sim.one vE = true ∧ Sim.one vF = true := by
  obtain ⟨C, cC, D, cD, rfl, rfl, _⟩ := r.store
  exact ⟨r.code.texts.one, r.code.list.one, rfl, rfl, r.names.one, r.lines.one⟩
end Go.Proofs.Ytciajhpeikemoaa
namespace Go.Proofs.Ytciajhpeikemoaa
open Go Go.Sim Go.Proofs
set_option linter.unusedSimpArgs false
set_option linter.unusedVariables false
set_option maxRecDepth 100000
set_option maxHeartbeats 1000000
theorem law_JobOk (j : Job) (vA vB vC vD vE vF : Value) (h : AH) (r0 : RdJ h vA vB vC vD vE vF j) (hz0 : SzJ0 j) (big : Big h) : CE Try.prog 10 [.agg #[vA, vB, .int .i64 j.code.bgn, .int .i64 j.code.line, .int .i64 j.code.fin, vC, vD, .string j.store.out, vE, vF]] h fun v _ => v = .bool true := by
  have u00 := r0.ones.1
  have u01 := r0.ones.2.1
  have u02 := r0.ones.2.2.1
  have u03 := r0.ones.2.2.2.1
  have u04 := r0.ones.2.2.2.2.1
  have u05 := r0.ones.2.2.2.2.2
  have pb : Pre h (h.alloc (.cells [vA, vB, .int .i64 j.code.bgn, .int .i64 j.code.line, .int .i64 j.code.fin, vC, vD, .string j.store.out, vE, vF] .solo h.n)) := (Pre.refl _).alloc _
  have hS := szJob_c j vA vB vC vD vE vF 1048576 _ (r0.pre pb) hz0 (by omega)
  refine CE.ofN Try.func10 Try.ntmps10 Try.results10 rfl (by kernel_rfl) ?_
  simp (maxSteps := 1000000) -implicitDefEqProofs only [push_cast, seval, u00, u01, u02, u03, u04, u05]
  repeat (with_reducible refine And.intro ?_ ?_; · (first | omega | decide))
  with_reducible refine CD.to hS ?_
  simp (maxSteps := 1000000) -implicitDefEqProofs only [push_cast, seval]
  with_reducible refine bcase_d (fun hb => ?_) (fun hb => ?_)
  · simp (maxSteps := 1000000) -implicitDefEqProofs only [push_cast, seval]
  have hw : jobW j ≤ 1048576 := by
    by_cases e : (1048576 : Int) - jobW j < 0
    · exact absurd (by rw [if_pos e]; decide) hb
    · omega
  have hz := hz0.sz hw
  simp (maxSteps := 1000000) -implicitDefEqProofs only [push_cast, seval, u00, u01, u02, u03, u04, u05]
  with_reducible refine CC.mono (toJob_c j vA vB vC vD vE vF _ (r0.pre pb) hz) (fun v h1 hv => ?_)
  with_reducible refine Exists.elim hv (fun a1 hw => ?_)
  with_reducible refine Exists.elim hw (fun b1 hw => ?_)
  with_reducible refine Exists.elim hw (fun c1 hw => ?_)
  with_reducible refine Exists.elim hw (fun d1 hw => ?_)
  with_reducible refine Exists.elim hw (fun e1 hw => ?_)
  with_reducible refine Exists.elim hw (fun f1 hw => ?_)
  have e1 := hw.1
  have r1 := hw.2.1
  have p1 := hw.2.2
  clear hv hw
  subst e1
  have u10 := r1.ones.1
  have u11 := r1.ones.2.1
  have u12 := r1.ones.2.2.1
  have u13 := r1.ones.2.2.2.1
  have u14 := r1.ones.2.2.2.2.1
  have u15 := r1.ones.2.2.2.2.2
  have q1 : Pre h h1 := pb.trans p1
  have l1 : h.n < h1.n := Nat.lt_of_lt_of_le (lt_alloc _) p1.n
  have o1 : h1.ob h.n = _ := (p1.ob _ (lt_alloc _)).trans (alloc_same _)
  simp (maxSteps := 1000000) -implicitDefEqProofs only [push_cast, seval, o1, rd_of o1, rd1_of o1, l1]
  with_reducible refine CD.to (JobOk_s j a1 b1 c1 d1 e1 f1 _ r1 hz) ?_
  simp (maxSteps := 1000000) -implicitDefEqProofs only [push_cast, seval, o1, rd_of o1, rd1_of o1, l1, u00, u01, u02, u03, u04, u05]
  with_reducible refine CC.mono (toJob_c j vA vB vC vD vE vF _ (r0.pre q1) hz) (fun v h2 hv => ?_)
  with_reducible refine Exists.elim hv (fun a2 hw => ?_)
  with_reducible refine Exists.elim hw (fun b2 hw => ?_)
  with_reducible refine Exists.elim hw (fun c2 hw => ?_)
  with_reducible refine Exists.elim hw (fun d2 hw => ?_)
  with_reducible refine Exists.elim hw (fun e2 hw => ?_)
  with_reducible refine Exists.elim hw (fun f2 hw => ?_)
  have e1 := hw.1
  have r2 := hw.2.1
  have p2 := hw.2.2
  clear hv hw
  subst e1
  have u20 := r2.ones.1
  have u21 := r2.ones.2.1
  have u22 := r2.ones.2.2.1
  have u23 := r2.ones.2.2.2.1
  have u24 := r2.ones.2.2.2.2.1
  have u25 := r2.ones.2.2.2.2.2
  have q2 : Pre h h2 := q1.trans p2
  have l2 : h.n < h2.n := Nat.lt_of_lt_of_le l1 p2.n
  have o2 : h2.ob h.n = _ := (p2.ob _ l1).trans o1
  simp (maxSteps := 1000000) -implicitDefEqProofs only [push_cast, seval, o2, rd_of o2, rd1_of o2, l2, u20, u21, u22, u23, u24, u25]
  have p3 : Pre h2 ((h2.alloc (.cells [.slice none 0 0, .slice none 0 0, .int .i64 0, .int .i64 0, .int .i64 0, .slice none 0 0, .slice none 0 0, .string ⟨#[]⟩, .slice none 0 0, .slice none 0 0] .solo h2.n)).set h2.n (.cells [a2, b2, .int .i64 j.code.bgn, .int .i64 j.code.line, .int .i64 j.code.fin, c2, d2, .string j.store.out, e2, f2] .solo h2.n)) := ((Pre.refl h2).alloc _).set (Nat.le_refl _) _
  have o3 : ((h2.alloc (.cells [.slice none 0 0, .slice none 0 0, .int .i64 0, .int .i64 0, .int .i64 0, .slice none 0 0, .slice none 0 0, .string ⟨#[]⟩, .slice none 0 0, .slice none 0 0] .solo h2.n)).set h2.n (.cells [a2, b2, .int .i64 j.code.bgn, .int .i64 j.code.line, .int .i64 j.code.fin, c2, d2, .string j.store.out, e2, f2] .solo h2.n)).ob h2.n = AOb.cells [a2, b2, .int .i64 j.code.bgn, .int .i64 j.code.line, .int .i64 j.code.fin, c2, d2, .string j.store.out, e2, f2] .solo h2.n := set_same _ _
  have n3 : ((h2.alloc (.cells [.slice none 0 0, .slice none 0 0, .int .i64 0, .int .i64 0, .int .i64 0, .slice none 0 0, .slice none 0 0, .string ⟨#[]⟩, .slice none 0 0, .slice none 0 0] .solo h2.n)).set h2.n (.cells [a2, b2, .int .i64 j.code.bgn, .int .i64 j.code.line, .int .i64 j.code.fin, c2, d2, .string j.store.out, e2, f2] .solo h2.n)).n = h2.n + 1 := rfl
  generalize ((h2.alloc (.cells [.slice none 0 0, .slice none 0 0, .int .i64 0, .int .i64 0, .int .i64 0, .slice none 0 0, .slice none 0 0, .string ⟨#[]⟩, .slice none 0 0, .slice none 0 0] .solo h2.n)).set h2.n (.cells [a2, b2, .int .i64 j.code.bgn, .int .i64 j.code.line, .int .i64 j.code.fin, c2, d2, .string j.store.out, e2, f2] .solo h2.n)) = h3 at *
  have m3 : h2.n < h3.n := by omega
  have l3 : h.n < h3.n := by omega
  have o33 : h3.ob h.n = _ := (p3.ob _ l2).trans o2
  have q3 := q2.trans p3
  with_reducible refine CD.to (JobOk_i j a2 b2 c2 d2 e2 f2 _ (r2.pre p3) hz) ?_
  simp (maxSteps := 1000000) -implicitDefEqProofs only [push_cast, seval, o3, rd_of o3, rd1_of o3, o33, rd_of o33, rd1_of o33, m3, l3, u20, u21, u22, u23, u24, u25]
  with_reducible refine bcase_mk (fun hb2 => ?_) (fun hb2 => ?_)
  rotate_left
  · simp at hb2
  simp (maxSteps := 1000000) -implicitDefEqProofs only [push_cast, seval]
  refine WC.draw' (by kernel_rfl) (by kernel_rfl) (.q 0 (.q 1 (.a 2 false (.a 3 false (.q 4 (.done)))))) (by kernel_rfl) ?_
  simp (maxSteps := 1000000) -implicitDefEqProofs only [push_cast, seval, o3, rd_of o3, rd1_of o3, o33, rd_of o33, rd1_of o33, m3, l3, u00, u01, u02, u03, u04, u05, u20, u21, u22, u23, u24, u25]
  with_reducible refine CC.mono (toJob_c j vA vB vC vD vE vF _ (r0.pre q3) hz) (fun v h4 hv => ?_)
  with_reducible refine Exists.elim hv (fun a4 hw => ?_)
  with_reducible refine Exists.elim hw (fun b4 hw => ?_)
  with_reducible refine Exists.elim hw (fun c4 hw => ?_)
  with_reducible refine Exists.elim hw (fun d4 hw => ?_)
  with_reducible refine Exists.elim hw (fun e4 hw => ?_)
  with_reducible refine Exists.elim hw (fun f4 hw => ?_)
  have e1 := hw.1
  have r4 := hw.2.1
  have p4 := hw.2.2
  clear hv hw
  subst e1
  have u40 := r4.ones.1
  have u41 := r4.ones.2.1
  have u42 := r4.ones.2.2.1
  have u43 := r4.ones.2.2.2.1
  have u44 := r4.ones.2.2.2.2.1
  have u45 := r4.ones.2.2.2.2.2
  have o4 : h4.ob h2.n = _ := (p4.ob _ m3).trans o3
  have o44 : h4.ob h.n = _ := (p4.ob _ l3).trans o33
  have m4 : h2.n < h4.n := Nat.lt_of_lt_of_le m3 p4.n
  simp (maxSteps := 1000000) -implicitDefEqProofs only [push_cast, seval, o4, rd_of o4, rd1_of o4, o44, rd_of o44, rd1_of o44, o3, o33, m4, u20, u21, u22, u23, u24, u25, u40, u41, u42, u43, u44, u45]
  with_reducible refine CD.to (eqJob_c j a2 b2 c2 d2 e2 f2 a4 b4 c4 d4 e4 f4 h4 (r2.pre (p3.trans p4)) r4 hz) ?_
  simp (maxSteps := 1000000) -implicitDefEqProofs only [push_cast, seval, o4, rd_of o4, rd1_of o4, o44, rd_of o44, rd1_of o44, o3, o33, m4, u20, u21, u22, u23, u24, u25, u40, u41, u42, u43, u44, u45]
end Go.Proofs.Ytciajhpeikemoaa

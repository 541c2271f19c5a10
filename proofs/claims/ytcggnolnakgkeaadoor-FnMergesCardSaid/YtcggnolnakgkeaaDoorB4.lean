/- Parts of the proof of the row: the ground, contracts of the functions that it reaches (L18, L19, SimO, L20, L21, P5, L22, SimP, SimQ, L23, L24, SimR, P6, L31, L32, L33, Lay8, P7, P8, P9, P10, SimS). Conditions: those that each theorem names. -/
import Derived.Shelf.Strconv.Itoa3
import Derived.Shelf.Strings.Trim
import Derived.Test.YtcggnolnakgkeaaDoorB3
namespace Go.Proofs.YtcggnolnakgkeaaDoor
open Go Go.Sim Go.Proofs
set_option linter.unusedSimpArgs false
set_option linter.unusedVariables false
set_option maxRecDepth 100000
set_option maxHeartbeats 1000000
theorem eqVar_c (a b : Var) (h : AH) : CD Tryd.prog 72 [.agg #[.string a.name, .string a.val], .agg #[.string b.name, .string b.val]] h (.bool (decide (a = b))) h := by
  refine CD.quiet ?_ (low_bool _ _)
  refine CC.ofN Tryd.func72 Tryd.ntmps72 Tryd.results72 rfl (by decide) (by kernel_rfl) ?_
  simp (maxSteps := 1000000) -implicitDefEqProofs only [push_cast, seval]
  repeat' (first | with_reducible (first | exact Keep.refl _ _ | assumption | exact byte_lt _ _ | apply Keep.alloc | (refine Keep.set ?_ ?_; rotate_left; · omega) | apply Pre.alloc | apply Pre.set | exact Pre.refl _ | exact le_alloc _ | (refine Pre.keep ?_; assumption) | (refine Pre.n ?_; assumption)) | ((with_reducible (first | refine bcase_d (fun hb => ?_) (fun hb => ?_) | refine bcase_mk (fun hb => ?_) (fun hb => ?_))) <;> try simp (maxSteps := 1000000) -implicitDefEqProofs only [push_cast, seval]) | with_reducible refine And.intro ?_ ?_ | omega | (simp only [alloc_n, set_n, kill_n]; omega) | (exfalso; omega))
  all_goals (obtain ⟨a1, a2⟩ := a; obtain ⟨b1, b2⟩ := b; simp_all [Var.mk.injEq])
theorem eqCell_c (a b : Cell) (h : AH) : CD Tryd.prog 73 [.agg #[.string a.name, .string a.key, .string a.val], .agg #[.string b.name, .string b.key, .string b.val]] h (.bool (decide (a = b))) h := by
  refine CD.quiet ?_ (low_bool _ _)
  refine CC.ofN Tryd.func73 Tryd.ntmps73 Tryd.results73 rfl (by decide) (by kernel_rfl) ?_
  simp (maxSteps := 1000000) -implicitDefEqProofs only [push_cast, seval]
  repeat' (first | with_reducible (first | exact Keep.refl _ _ | assumption | exact byte_lt _ _ | apply Keep.alloc | (refine Keep.set ?_ ?_; rotate_left; · omega) | apply Pre.alloc | apply Pre.set | exact Pre.refl _ | exact le_alloc _ | (refine Pre.keep ?_; assumption) | (refine Pre.n ?_; assumption)) | ((with_reducible (first | refine bcase_d (fun hb => ?_) (fun hb => ?_) | refine bcase_mk (fun hb => ?_) (fun hb => ?_))) <;> try simp (maxSteps := 1000000) -implicitDefEqProofs only [push_cast, seval]) | with_reducible refine And.intro ?_ ?_ | omega | (simp only [alloc_n, set_n, kill_n]; omega) | (exfalso; omega))
  all_goals (obtain ⟨a1, a2, a3⟩ := a; obtain ⟨b1, b2, b3⟩ := b; simp_all [Cell.mk.injEq])
theorem take_next {α : Type} {l m : List α} {i : Nat} (e : l.take i = m.take i) (hi : i < l.length) (hj : i < m.length) (h : l[i] = m[i]) : l.take (i + 1) = m.take (i + 1) := by
  rw [List.take_add_one, List.take_add_one, e, List.getElem?_eq_getElem hi, List.getElem?_eq_getElem hj, h]
theorem take_full {α : Type} {l m : List α} (e : l.take l.length = m.take l.length) (h : l.length = m.length) : l = m := by
  rw [List.take_length, h, List.take_length] at e; exact e
theorem eqVarS_c (l m : List Var) (A B : Option Addr) (ca cb : Nat) (h : AH) (hA : RdE h A 2 Var.enc l) (hB : RdE h B 2 Var.enc m) (hl : l.length < 274877906944) (hm : m.length < 274877906944) :
    CD Tryd.prog 43 [.slice A l.length ca, .slice B m.length cb] h (.bool (decide (l = m))) h := by
  refine CD.withBig (fun big => ?_)
  refine CD.quiet ?_ (low_bool _ _)
  refine CC.ofN Tryd.func43 Tryd.ntmps43 Tryd.results43 rfl (by decide) (by kernel_rfl) ?_
  simp (maxSteps := 1000000) -implicitDefEqProofs only [push_cast, seval]
  with_reducible refine bcase_d (fun hb => ?_) (fun hb => ?_)
  rotate_left
  · simp (maxSteps := 1000000) -implicitDefEqProofs only [push_cast, seval]
    repeat' (first | with_reducible (first | exact Keep.refl _ _ | assumption | exact byte_lt _ _ | apply Keep.alloc | (refine Keep.set ?_ ?_; rotate_left; · omega) | apply Pre.alloc | apply Pre.set | exact Pre.refl _ | exact le_alloc _ | (refine Pre.keep ?_; assumption) | (refine Pre.n ?_; assumption)) | ((with_reducible (first | refine bcase_d (fun hb => ?_) (fun hb => ?_) | refine bcase_mk (fun hb => ?_) (fun hb => ?_))) <;> try simp (maxSteps := 1000000) -implicitDefEqProofs only [push_cast, seval]) | with_reducible refine And.intro ?_ ?_ | omega | (simp only [alloc_n, set_n, kill_n]; omega) | (exfalso; omega))
    have : l ≠ m := fun e => hb (by rw [e])
    simp [this]
  have hlm : l.length = m.length := by omega
  simp (maxSteps := 1000000) -implicitDefEqProofs only [push_cast, seval]
  refine WC.loopA (by kernel_rfl) [5] [4, 11, 12, 13, 14, 15, 16, 17, 18, 19, 20, 21, 22, 23, 24, 25, 26] (fun a : Nat => [.int .i64 (a : Nat)]) (fun a h' => a ≤ l.length ∧ l.take a = m.take a ∧ Pre h h') (fun a => l.length - a) 0 (by kernel_rfl) ⟨Nat.zero_le _, by simp, Pre.refl _⟩ ?_
  intro a g h1 hJ
  have hi := hJ.1
  have he := hJ.2.1
  have hp := hJ.2.2
  clear hJ
  simp (maxSteps := 1000000) -implicitDefEqProofs only [push_cast, seval]
  with_reducible refine bcase_d (fun hb => ?_) (fun hb => ?_)
  · have hi' : a < l.length := by omega
    have hj' : a < m.length := by omega
    with_reducible refine hA.use big hp hi' (fun id off eA hlt hr => ?_)
    with_reducible refine hB.use big hp hj' (fun id2 off2 eB hlt2 hr2 => ?_)
    subst eA
    subst eB
    simp only [Var.enc] at hr hr2
    simp (maxSteps := 1000000) -implicitDefEqProofs only [push_cast, seval, hr, hlt, hr2, hlt2]
    refine WC.draw' (by kernel_rfl) (by kernel_rfl) (.q 0 (.q 1 (.q 2 (.q 3 (.q 4 (.q 5 (.q 6 (.q 7 (.c 8 (.q 9 (.done))))))))))) (by kernel_rfl) ?_
    simp (maxSteps := 1000000) -implicitDefEqProofs only [push_cast, seval, hr, hlt, hr2, hlt2]
    repeat' (first | with_reducible (first | exact Keep.refl _ _ | assumption | exact byte_lt _ _ | apply Keep.alloc | (refine Keep.set ?_ ?_; rotate_left; · omega) | apply Pre.alloc | apply Pre.set | exact Pre.refl _ | exact le_alloc _ | (refine Pre.keep ?_; assumption) | (refine Pre.n ?_; assumption)) | ((with_reducible (first | refine CD.to (eqVar_c _ _ _) ?_ | refine CQ.pure (fun _ => eqVar_c _ _ _) ?_ | refine bcase_d (fun hb => ?_) (fun hb => ?_) | refine bcase_mk (fun hb => ?_) (fun hb => ?_))) <;> try simp (maxSteps := 1000000) -implicitDefEqProofs only [push_cast, seval, hr, hlt, hr2, hlt2]) | with_reducible refine And.intro ?_ ?_ | omega | (simp only [alloc_n, set_n, kill_n]; omega) | (exfalso; omega))
    · rw [wrapSucc (by omega)]
      refine ⟨a + 1, by kernel_rfl, ⟨by show a + 1 ≤ l.length; omega, take_next he hi' hj' ?_, hp⟩, by show l.length - (a + 1) < l.length - a; omega⟩
      simpa using hb
    · have : l ≠ m := fun e => by subst e; simp at hb
      simp [this]
  · have hn : a = l.length := by omega
    subst hn
    simp (maxSteps := 1000000) -implicitDefEqProofs only [push_cast, seval]
    repeat' (first | with_reducible (first | exact Keep.refl _ _ | assumption | exact byte_lt _ _ | apply Keep.alloc | (refine Keep.set ?_ ?_; rotate_left; · omega) | apply Pre.alloc | apply Pre.set | exact Pre.refl _ | exact le_alloc _ | (refine Pre.keep ?_; assumption) | (refine Pre.n ?_; assumption)) | ((with_reducible (first | refine bcase_d (fun hb => ?_) (fun hb => ?_) | refine bcase_mk (fun hb => ?_) (fun hb => ?_))) <;> try simp (maxSteps := 1000000) -implicitDefEqProofs only [push_cast, seval]) | with_reducible refine And.intro ?_ ?_ | omega | (simp only [alloc_n, set_n, kill_n]; omega) | (exfalso; omega))
    have := take_full he hlm
    simp [this]
theorem eqCellS_c (l m : List Cell) (A B : Option Addr) (ca cb : Nat) (h : AH) (hA : RdE h A 3 Cell.enc l) (hB : RdE h B 3 Cell.enc m) (hl : l.length < 274877906944) (hm : m.length < 274877906944) :
    CD Tryd.prog 44 [.slice A l.length ca, .slice B m.length cb] h (.bool (decide (l = m))) h := by
  refine CD.withBig (fun big => ?_)
  refine CD.quiet ?_ (low_bool _ _)
  refine CC.ofN Tryd.func44 Tryd.ntmps44 Tryd.results44 rfl (by decide) (by kernel_rfl) ?_
  simp (maxSteps := 1000000) -implicitDefEqProofs only [push_cast, seval]
  with_reducible refine bcase_d (fun hb => ?_) (fun hb => ?_)
  rotate_left
  · simp (maxSteps := 1000000) -implicitDefEqProofs only [push_cast, seval]
    repeat' (first | with_reducible (first | exact Keep.refl _ _ | assumption | exact byte_lt _ _ | apply Keep.alloc | (refine Keep.set ?_ ?_; rotate_left; · omega) | apply Pre.alloc | apply Pre.set | exact Pre.refl _ | exact le_alloc _ | (refine Pre.keep ?_; assumption) | (refine Pre.n ?_; assumption)) | ((with_reducible (first | refine bcase_d (fun hb => ?_) (fun hb => ?_) | refine bcase_mk (fun hb => ?_) (fun hb => ?_))) <;> try simp (maxSteps := 1000000) -implicitDefEqProofs only [push_cast, seval]) | with_reducible refine And.intro ?_ ?_ | omega | (simp only [alloc_n, set_n, kill_n]; omega) | (exfalso; omega))
    have : l ≠ m := fun e => hb (by rw [e])
    simp [this]
  have hlm : l.length = m.length := by omega
  simp (maxSteps := 1000000) -implicitDefEqProofs only [push_cast, seval]
  refine WC.loopA (by kernel_rfl) [5] [4, 11, 12, 13, 14, 15, 16, 17, 18, 19, 20, 21, 22, 23, 24, 25, 26] (fun a : Nat => [.int .i64 (a : Nat)]) (fun a h' => a ≤ l.length ∧ l.take a = m.take a ∧ Pre h h') (fun a => l.length - a) 0 (by kernel_rfl) ⟨Nat.zero_le _, by simp, Pre.refl _⟩ ?_
  intro a g h1 hJ
  have hi := hJ.1
  have he := hJ.2.1
  have hp := hJ.2.2
  clear hJ
  simp (maxSteps := 1000000) -implicitDefEqProofs only [push_cast, seval]
  with_reducible refine bcase_d (fun hb => ?_) (fun hb => ?_)
  · have hi' : a < l.length := by omega
    have hj' : a < m.length := by omega
    with_reducible refine hA.use big hp hi' (fun id off eA hlt hr => ?_)
    with_reducible refine hB.use big hp hj' (fun id2 off2 eB hlt2 hr2 => ?_)
    subst eA
    subst eB
    simp only [Cell.enc] at hr hr2
    simp (maxSteps := 1000000) -implicitDefEqProofs only [push_cast, seval, hr, hlt, hr2, hlt2]
    refine WC.draw' (by kernel_rfl) (by kernel_rfl) (.q 0 (.q 1 (.q 2 (.q 3 (.q 4 (.q 5 (.q 6 (.q 7 (.c 8 (.q 9 (.done))))))))))) (by kernel_rfl) ?_
    simp (maxSteps := 1000000) -implicitDefEqProofs only [push_cast, seval, hr, hlt, hr2, hlt2]
    repeat' (first | with_reducible (first | exact Keep.refl _ _ | assumption | exact byte_lt _ _ | apply Keep.alloc | (refine Keep.set ?_ ?_; rotate_left; · omega) | apply Pre.alloc | apply Pre.set | exact Pre.refl _ | exact le_alloc _ | (refine Pre.keep ?_; assumption) | (refine Pre.n ?_; assumption)) | ((with_reducible (first | refine CD.to (eqCell_c _ _ _) ?_ | refine CQ.pure (fun _ => eqCell_c _ _ _) ?_ | refine bcase_d (fun hb => ?_) (fun hb => ?_) | refine bcase_mk (fun hb => ?_) (fun hb => ?_))) <;> try simp (maxSteps := 1000000) -implicitDefEqProofs only [push_cast, seval, hr, hlt, hr2, hlt2]) | with_reducible refine And.intro ?_ ?_ | omega | (simp only [alloc_n, set_n, kill_n]; omega) | (exfalso; omega))
    · rw [wrapSucc (by omega)]
      refine ⟨a + 1, by kernel_rfl, ⟨by show a + 1 ≤ l.length; omega, take_next he hi' hj' ?_, hp⟩, by show l.length - (a + 1) < l.length - a; omega⟩
      simpa using hb
    · have : l ≠ m := fun e => by subst e; simp at hb
      simp [this]
  · have hn : a = l.length := by omega
    subst hn
    simp (maxSteps := 1000000) -implicitDefEqProofs only [push_cast, seval]
    repeat' (first | with_reducible (first | exact Keep.refl _ _ | assumption | exact byte_lt _ _ | apply Keep.alloc | (refine Keep.set ?_ ?_; rotate_left; · omega) | apply Pre.alloc | apply Pre.set | exact Pre.refl _ | exact le_alloc _ | (refine Pre.keep ?_; assumption) | (refine Pre.n ?_; assumption)) | ((with_reducible (first | refine bcase_d (fun hb => ?_) (fun hb => ?_) | refine bcase_mk (fun hb => ?_) (fun hb => ?_))) <;> try simp (maxSteps := 1000000) -implicitDefEqProofs only [push_cast, seval]) | with_reducible refine And.intro ?_ ?_ | omega | (simp only [alloc_n, set_n, kill_n]; omega) | (exfalso; omega))
    have := take_full he hlm
    simp [this]
theorem eqStore_c (s t : Store) (A B C D : Option Addr) (ca cb cc cd : Nat) (h : AH) (hs : RdS h A B s) (ht : RdS h C D t) (zs : Sz s) (zt : Sz t) :
    CD Tryd.prog 15 [.agg #[.slice A s.vars.length ca, .slice B s.cells.length cb, .string s.out], .agg #[.slice C t.vars.length cc, .slice D t.cells.length cd, .string t.out]] h (.bool (decide (s = t))) h := by
  refine CD.withBig (fun big => ?_)
  refine CD.quiet ?_ (low_bool _ _)
  have pb : Pre h ((h.alloc (AOb.cells [Value.slice A s.vars.length ca, Value.slice B s.cells.length cb, Value.string s.out] Stat.solo h.n)).alloc (AOb.cells [Value.slice C t.vars.length cc, Value.slice D t.cells.length cd, Value.string t.out] Stat.solo (h.n + 1))) := ((Pre.refl _).alloc _).alloc _
  have hV := eqVarS_c s.vars t.vars A C ca cc _ (hs.vars.pre big pb) (ht.vars.pre big pb) zs.nv zt.nv
  have hC := eqCellS_c s.cells t.cells B D cb cd _ (hs.cells.pre big pb) (ht.cells.pre big pb) zs.nc zt.nc
  refine CC.ofN Tryd.func15 Tryd.ntmps15 Tryd.results15 rfl (by decide) (by kernel_rfl) ?_
  simp (maxSteps := 1000000) -implicitDefEqProofs only [push_cast, seval]
  repeat' (first | with_reducible (first | exact Keep.refl _ _ | assumption | exact byte_lt _ _ | apply Keep.alloc | (refine Keep.set ?_ ?_; rotate_left; · omega) | apply Pre.alloc | apply Pre.set | exact Pre.refl _ | exact le_alloc _ | (refine Pre.keep ?_; assumption) | (refine Pre.n ?_; assumption)) | ((with_reducible (first | refine CD.to (hV) ?_ | refine CQ.pure (fun _ => hV) ?_ | refine CD.to (hC) ?_ | refine CQ.pure (fun _ => hC) ?_ | refine bcase_d (fun hb => ?_) (fun hb => ?_) | refine bcase_mk (fun hb => ?_) (fun hb => ?_))) <;> try simp (maxSteps := 1000000) -implicitDefEqProofs only [push_cast, seval]) | with_reducible refine And.intro ?_ ?_ | omega | (simp only [alloc_n, set_n, kill_n]; omega) | (exfalso; omega))
  all_goals (obtain ⟨a1, a2, a3⟩ := s; obtain ⟨b1, b2, b3⟩ := t; simp_all [Store.mk.injEq])
end Go.Proofs.YtcggnolnakgkeaaDoor
namespace Go.Proofs.YtcggnolnakgkeaaDoor
open Go Go.Sim Go.Proofs
set_option linter.unusedSimpArgs false
set_option linter.unusedVariables false
set_option maxRecDepth 100000
set_option maxHeartbeats 1000000
end Go.Proofs.YtcggnolnakgkeaaDoor
/- Slices that are handed in, read as lists. Conditions: those that each theorem names. -/
set_option linter.unusedVariables false
set_option linter.unusedSimpArgs false
namespace Go.Sim
variable {P : Program} {h : AH}

theorem CE.withBig {f : FuncId} {args : List Value} {R : Value → AH → Prop} (hc : Big h → CE P f args h R) : CE P f args h R := fun FB w0 μ w cargs R' s => hc s.big FB w0 μ w cargs R' s
theorem chunk_len {α : Type} {k : Nat} {enc : α → List Value} : ∀ {l : List α}, (∀ x ∈ l, (enc x).length = k) → (l.map enc).flatten.length = l.length * k
  | [], _ => by simp
  | x :: r, hl => by
    simp only [List.map_cons, List.flatten_cons, List.length_append, List.length_cons, hl x (by simp), chunk_len (l := r) (fun y hy => hl y (by simp [hy])), Nat.succ_mul]
    omega
theorem chunk_at {α : Type} {k : Nat} {enc : α → List Value} : ∀ {l : List α} (i : Nat) (hi : i < l.length), (∀ x ∈ l, (enc x).length = k) → (((l.map enc).flatten).drop (i * k)).take k = enc l[i]
  | x :: r, 0, _, hl => by
    have e := hl x (by simp)
    simp [← e]
  | x :: r, i + 1, hi, hl => by
    have e := hl x (by simp)
    have ih := chunk_at (l := r) i (by simpa using hi) (fun y hy => hl y (by simp [hy]))
    simp only [List.map_cons, List.flatten_cons, List.getElem_cons_succ, Nat.succ_mul]
    rw [List.drop_append, e, show i * k + k - k = i * k by omega, List.drop_eq_nil_of_le (by rw [e]; omega), List.nil_append]
    exact ih
theorem lift_map {α : Type} {enc : α → List Value} {ok : α → Prop} : ∀ (chs : List (List Value)), (∀ c ∈ chs, ∃ x, c = enc x ∧ ok x) → ∃ l : List α, chs = l.map enc ∧ ∀ x ∈ l, ok x
  | [], _ => ⟨[], rfl, by simp⟩
  | c :: r, hc => by
    obtain ⟨x, rfl, hx⟩ := hc c (by simp)
    obtain ⟨l, rfl, hl⟩ := lift_map r (fun d hd => hc d (by simp [hd]))
    exact ⟨x :: l, rfl, by simpa using ⟨hx, hl⟩⟩
theorem Rep.list {α : Type} {t e : TypeId} {k : Nat} {cs : List Value} (enc : α → List Value) (ok : α → Prop) (ht : P.underlying t = some (.slice e)) (hk : P.cellsOf e = k) (dec : ∀ c, Rep P h e c → ∃ x, c = enc x ∧ ok x) (r : Rep P h t cs) :
    ∃ A c, ∃ l : List α, cs = [.slice A l.length c] ∧ RdE h A k enc l ∧ (∀ x ∈ l, ok x) ∧ l.length ≤ maxLen := by
  cases r with
  | nil _ e' c ht' => exact ⟨none, c, [], rfl, RdE.nil _ _ _, by simp, by simp⟩
  | slice _ e' id n ln chs ht' hid ho hn hm hl hr =>
    rw [ht] at ht'
    simp only [Option.some.injEq, TypeDesc.slice.injEq] at ht'
    subst ht'
    obtain ⟨l, rfl, hok⟩ := lift_map (enc := enc) (ok := ok) chs (fun c hc => by
      obtain ⟨i, hi, rfl⟩ := List.mem_iff_getElem.1 hc
      exact dec _ (hr i hi))
    have hlen : ∀ x ∈ l, (enc x).length = k := fun x hx => by
      obtain ⟨i, hi, rfl⟩ := List.mem_iff_getElem.1 hx
      have := hl i (by simpa using hi)
      simpa [hk] using this
    rw [List.length_map] at hn
    subst hn
    refine ⟨some ⟨id, 0, none⟩, P.cellsOf e, l, rfl, fun i hi => ⟨id, 0, rfl, ?_⟩, hok, hm⟩
    have hb : i * k + k ≤ l.length * k := by rw [← Nat.succ_mul]; exact Nat.mul_le_mul_right k hi
    rw [rd_of ho, rdO_cells, Nat.zero_add, if_pos (by rw [chunk_len hlen]; exact hb), chunk_at i hi hlen]
  | _ => simp_all
theorem flat_len {α : Type} {k : Nat} {enc : α → List Value} (l : List α) (hl : ∀ x, (enc x).length = k) : (l.map enc).flatten.length = l.length * k := by
  induction l with
  | nil => simp
  | cons x r ih => simp only [List.map_cons, List.flatten_cons, List.length_append, List.length_cons, hl, ih, Nat.succ_mul]; omega
theorem flat_snoc {α : Type} (enc : α → List Value) (l : List α) (x : α) : ((l ++ [x]).map enc).flatten = (l.map enc).flatten ++ enc x := by simp
theorem Gr.not_low {n0 : Nat} {h : AH} {v : Value} {k : Nat} {cs : List Value} (w : Gr n0 h v k cs) {i : Nat} (hi : i < n0) : ¬ atBlock v i := by
  rcases w with ⟨c, rfl, rfl⟩ | ⟨id, off, n, rfl, b, o⟩
  · exact id
  · exact fun e => by have e' : id = i := e; omega
theorem Gr.mono {n0 n1 : Nat} {h : AH} {v : Value} {k : Nat} {cs : List Value} (w : Gr n0 h v k cs) (hn : n1 ≤ n0) : Gr n1 h v k cs := by
  rcases w with w | ⟨id, off, n, e, b, o⟩
  · exact .inl w
  · exact .inr ⟨id, off, n, e, by omega, o⟩
theorem Gr.range {n0 : Nat} {h : AH} {v : Value} {k : Nat} {cs : List Value} (w : Gr n0 h v k cs) {i : Nat} (e : atBlock v i) : n0 ≤ i ∧ i < h.n := by
  rcases w with ⟨c, rfl, rfl⟩ | ⟨id, off, n, rfl, b, o⟩
  · exact e.elim
  · have e' : id = i := e
    have := o.lt
    omega
theorem zl2 (a b : Value) : zerosL 2 [a, b] = [a, b] := rfl
theorem zl3 (a b c : Value) : zerosL 3 [a, b, c] = [a, b, c] := rfl
theorem six_ob {h1 : AH} {p : Nat} (o1 o2 o3 o4 o5 o6 : AOb) {i : Nat} (hi : i ≠ p) (hl : i < h1.n) : ((((((h1.alloc o1).set h1.n o2).set p o3).set h1.n o4).set p o5).set h1.n o6).ob i = h1.ob i := by
  rw [set_ne _ (by omega), set_ne _ (by omega), set_ne _ (by omega), set_ne _ (by omega), set_ne _ (by omega), alloc_lt _ hl]
theorem six_at {h1 : AH} {p : Nat} (o1 o2 o3 o4 o5 o6 : AOb) (hl : p < h1.n) : ((((((h1.alloc o1).set h1.n o2).set p o3).set h1.n o4).set p o5).set h1.n o6).ob p = o5 := by
  rw [set_ne _ (by omega), set_same]
theorem six_pre {h0 h1 : AH} {p : Nat} (o1 o2 o3 o4 o5 o6 : AOb) (hp : Pre h0 h1) (hl : h0.n ≤ p) : Pre h0 ((((((h1.alloc o1).set h1.n o2).set p o3).set h1.n o4).set p o5).set h1.n o6) :=
  (((((hp.alloc _).set hp.n _).set hl _).set hp.n _).set hl _).set hp.n _
theorem eight_ob {h1 : AH} {p : Nat} (o1 o2 o3 o4 o5 o6 o7 o8 : AOb) {i : Nat} (hi : i ≠ p) (hl : i < h1.n) : ((((((((h1.alloc o1).set h1.n o2).set p o3).set h1.n o4).set p o5).set h1.n o6).set p o7).set h1.n o8).ob i = h1.ob i := by
  rw [set_ne _ (by omega), set_ne _ (by omega), set_ne _ (by omega), set_ne _ (by omega), set_ne _ (by omega), set_ne _ (by omega), set_ne _ (by omega), alloc_lt _ hl]
theorem eight_at {h1 : AH} {p : Nat} (o1 o2 o3 o4 o5 o6 o7 o8 : AOb) (hl : p < h1.n) : ((((((((h1.alloc o1).set h1.n o2).set p o3).set h1.n o4).set p o5).set h1.n o6).set p o7).set h1.n o8).ob p = o7 := by
  rw [set_ne _ (by omega), set_same]
theorem eight_pre {h0 h1 : AH} {p : Nat} (o1 o2 o3 o4 o5 o6 o7 o8 : AOb) (hp : Pre h0 h1) (hl : h0.n ≤ p) : Pre h0 ((((((((h1.alloc o1).set h1.n o2).set p o3).set h1.n o4).set p o5).set h1.n o6).set p o7).set h1.n o8) :=
  (((((((hp.alloc _).set hp.n _).set hl _).set hp.n _).set hl _).set hp.n _).set hl _).set hp.n _
theorem Gr.read {α : Type} {n0 : Nat} {h : AH} {v : Value} {k : Nat} {enc : α → List Value} {l : List α} (w : Gr n0 h v k (l.map enc).flatten) (hk : 0 < k) (hl : ∀ x, (enc x).length = k) :
    ∃ A c, v = .slice A l.length c ∧ ∀ h2 : AH, (∀ i, n0 ≤ i → i < h.n → h2.ob i = h.ob i) → RdE h2 A k enc l := by
  rcases w with ⟨c, rfl, e⟩ | ⟨id, off, n, rfl, b, o⟩
  · have hf := flat_len (enc := enc) l hl
    rw [e] at hf
    have : l.length = 0 := by
      rcases Nat.eq_zero_or_pos l.length with e0 | e0
      · exact e0
      · have := Nat.mul_pos e0 hk
        simp at hf; omega
    exact ⟨none, c, by rw [this], fun h2 _ i hi => absurd hi (by omega)⟩
  · have hf := flat_len (enc := enc) l hl
    have hn : n = l.length := Nat.eq_of_mul_eq_mul_right hk (o.len.symm.trans hf)
    subst hn
    refine ⟨some ⟨id, off, none⟩, k, rfl, fun h2 he i hi => ⟨id, off, rfl, ?_⟩⟩
    obtain ⟨all, st, ln, ho, _, htot, hd⟩ := o.ob
    have hb : i * k + k ≤ l.length * k := by rw [← Nat.succ_mul]; exact Nat.mul_le_mul_right k hi
    rw [rd_of ((he id b o.lt).trans ho), rdO_cells, if_pos (by omega), ← List.drop_drop, hd, chunk_at i hi (fun x _ => hl x)]
theorem fiveS_ob {h1 : AH} {p : Nat} (o1 o2 o3 o4 o5 : AOb) {i : Nat} (hi : i ≠ p) (hl : i < h1.n) : (((((h1.set p o1).alloc o2).set h1.n o3).set p o4).set h1.n o5).ob i = h1.ob i := by
  rw [set_ne _ (by omega), set_ne _ (by omega), set_ne _ (by omega)]
  exact (alloc_lt (h := h1.set p o1) _ hl).trans (set_ne _ hi)
theorem fiveS_at {h1 : AH} {p : Nat} (o1 o2 o3 o4 o5 : AOb) (hl : p < h1.n) : (((((h1.set p o1).alloc o2).set h1.n o3).set p o4).set h1.n o5).ob p = o4 := by
  rw [set_ne _ (by omega), set_same]
theorem fiveS_pre {h0 h1 : AH} {p : Nat} (o1 o2 o3 o4 o5 : AOb) (hp : Pre h0 h1) (hl : h0.n ≤ p) : Pre h0 (((((h1.set p o1).alloc o2).set h1.n o3).set p o4).set h1.n o5) :=
  ((((hp.set hl _).alloc _).set hp.n _).set hl _).set hp.n _
theorem sevenS_ob {h1 : AH} {p : Nat} (o1 o2 o3 o4 o5 o6 o7 : AOb) {i : Nat} (hi : i ≠ p) (hl : i < h1.n) : (((((((h1.set p o1).alloc o2).set h1.n o3).set p o4).set h1.n o5).set p o6).set h1.n o7).ob i = h1.ob i := by
  rw [set_ne _ (by omega), set_ne _ (by omega), set_ne _ (by omega), set_ne _ (by omega), set_ne _ (by omega)]
  exact (alloc_lt (h := h1.set p o1) _ hl).trans (set_ne _ hi)
theorem sevenS_at {h1 : AH} {p : Nat} (o1 o2 o3 o4 o5 o6 o7 : AOb) (hl : p < h1.n) : (((((((h1.set p o1).alloc o2).set h1.n o3).set p o4).set h1.n o5).set p o6).set h1.n o7).ob p = o6 := by
  rw [set_ne _ (by omega), set_same]
theorem sevenS_pre {h0 h1 : AH} {p : Nat} (o1 o2 o3 o4 o5 o6 o7 : AOb) (hp : Pre h0 h1) (hl : h0.n ≤ p) : Pre h0 (((((((h1.set p o1).alloc o2).set h1.n o3).set p o4).set h1.n o5).set p o6).set h1.n o7) :=
  ((((((hp.set hl _).alloc _).set hp.n _).set hl _).set hp.n _).set hl _).set hp.n _
end Go.Sim
namespace Go.Proofs.YtcggnolnakgkeaaDoor
open Go Go.Sim Go.Proofs
set_option linter.unusedSimpArgs false
set_option linter.unusedVariables false
set_option maxRecDepth 100000
set_option maxHeartbeats 1000000
/-- What a reader in some state reads as a short text, and its state behind it. -/
def shT (s : ByteArray) (r : Nat × Bool) : ByteArray := sT s (if r.2 then none else rs s r.1)
def shN (s : ByteArray) (r : Nat × Bool) : Nat × Bool := (nxT (if r.2 then none else rs s r.1) r.1, (if r.2 then none else rs s r.1).isNone)
def ctV (s : ByteArray) (most : Int) (r : Nat × Bool) : Int := if most < oN (if r.2 then none else rv s r.1) then 0 else oN (if r.2 then none else rv s r.1)
def ctN (s : ByteArray) (most : Int) (r : Nat × Bool) : Nat × Bool := (nxN (if r.2 then none else rv s r.1) r.1, (if r.2 then none else rv s r.1).isNone || decide (most < oN (if r.2 then none else rv s r.1)))
def rdP (p : Nat) (s : ByteArray) (r : Nat × Bool) : AOb := .cells [.string s, .int .i64 (r.1 : Nat), .bool r.2] .solo p
/-- So many variables read one behind the other. -/
def itV (s : ByteArray) (r : Nat × Bool) : Nat → (Nat × Bool) × List Var
  | 0 => (r, [])
  | i + 1 => (shN s (shN s (itV s r i).1), (itV s r i).2 ++ [⟨shT s (itV s r i).1, shT s (shN s (itV s r i).1)⟩])
theorem itV_len (s : ByteArray) (r : Nat × Bool) : ∀ i, (itV s r i).2.length = i
  | 0 => rfl
  | i + 1 => by simp [itV, itV_len s r i]
def itC (s : ByteArray) (r : Nat × Bool) : Nat → (Nat × Bool) × List Cell
  | 0 => (r, [])
  | i + 1 => (shN s (shN s (shN s (itC s r i).1)), (itC s r i).2 ++ [⟨shT s (itC s r i).1, shT s (shN s (itC s r i).1), shT s (shN s (shN s (itC s r i).1))⟩])
theorem itC_len (s : ByteArray) (r : Nat × Bool) : ∀ i, (itC s r i).2.length = i
  | 0 => rfl
  | i + 1 => by simp [itC, itC_len s r i]
theorem ctV_nat (s : ByteArray) (most : Nat) (r : Nat × Bool) : ∃ N : Nat, ctV s most r = (N : Nat) ∧ N ≤ most := by
  unfold ctV
  generalize (if r.2 then none else rv s r.1) = q
  have h0 : ∃ M : Nat, oN q = (M : Nat) := by cases q with
    | none => exact ⟨0, rfl⟩
    | some p => exact ⟨p.1, rfl⟩
  obtain ⟨M, hM⟩ := h0
  rw [hM]
  by_cases e : (most : Int) < (M : Int)
  · exact ⟨0, by rw [if_pos e]; rfl, Nat.zero_le _⟩
  · exact ⟨M, by rw [if_neg e], by omega⟩
def ctM (s : ByteArray) (most : Int) (r : Nat × Bool) : Nat := (ctV s most r).toNat
/-- What impl.ReadStore reads, whether or not it is right. -/
def iL (s : ByteArray) : (Nat × Bool) × List Var := itV s (ctN s 60 (0, false)) (ctM s 60 (0, false))
def iC (s : ByteArray) : (Nat × Bool) × List Cell := itC s (ctN s 2000 (iL s).1) (ctM s 2000 (iL s).1)
def iStore (s : ByteArray) : Store := ⟨(iL s).2, (iC s).2, shT s (iC s).1⟩
def iOk (s : ByteArray) : Bool := !(shN s (iC s).1).2 && decide (((shN s (iC s).1).1 : Int) = s.size) && storeOk (iStore s)
def store0 : Store := ⟨[], [], ⟨#[]⟩⟩
def iS (s : ByteArray) : Store := if iOk s = true then iStore s else store0
theorem shT_size (s : ByteArray) (r : Nat × Bool) : (shT s r).size ≤ s.size := by
  unfold shT sT
  split
  · simp only [ByteArray.size_extract]; omega
  · exact Nat.zero_le _
theorem itV_size (s : ByteArray) (r : Nat × Bool) : ∀ i, ∀ x ∈ (itV s r i).2, x.name.size ≤ s.size ∧ x.val.size ≤ s.size
  | 0, x, hx => by simp [itV] at hx
  | i + 1, x, hx => by
    simp only [itV, List.mem_append, List.mem_singleton] at hx
    rcases hx with hx | rfl
    · exact itV_size s r i x hx
    · exact ⟨shT_size _ _, shT_size _ _⟩
theorem itC_size (s : ByteArray) (r : Nat × Bool) : ∀ i, ∀ x ∈ (itC s r i).2, x.name.size ≤ s.size ∧ x.key.size ≤ s.size ∧ x.val.size ≤ s.size
  | 0, x, hx => by simp [itC] at hx
  | i + 1, x, hx => by
    simp only [itC, List.mem_append, List.mem_singleton] at hx
    rcases hx with hx | rfl
    · exact itC_size s r i x hx
    · exact ⟨shT_size _ _, shT_size _ _, shT_size _ _⟩
/-- A store whose slices are the call's own, in objects of their own. -/
def OwnS (h0 h : AH) (vA vB : Value) (st : Store) : Prop := ∃ m, h0.n ≤ m ∧ Gr h0.n h vA 2 (st.vars.map Var.enc).flatten ∧ (∀ i, atBlock vA i → i < m) ∧ Gr m h vB 3 (st.cells.map Cell.enc).flatten
theorem OwnS.zero (h0 h : AH) : OwnS h0 h (.slice none 0 0) (.slice none 0 0) store0 := ⟨h0.n, Nat.le_refl _, Gr.nil _ _ _ _, fun i e => e.elim, Gr.nil _ _ _ _⟩
end Go.Proofs.YtcggnolnakgkeaaDoor
namespace Go.Proofs.YtcggnolnakgkeaaDoor
open Go Go.Sim Go.Proofs
set_option linter.unusedSimpArgs false
set_option linter.unusedVariables false
set_option maxRecDepth 100000
set_option maxHeartbeats 1000000
def nmV (s : ByteArray) (r : Nat × Bool) : Nat := (oN (if r.2 then none else rv s r.1)).toNat
def nmN (s : ByteArray) (r : Nat × Bool) : Nat × Bool := (nxN (if r.2 then none else rv s r.1) r.1, (if r.2 then none else rv s r.1).isNone)
theorem nmV_eq (s : ByteArray) (r : Nat × Bool) : oN (if r.2 then none else rv s r.1) = (nmV s r : Nat) := by
  unfold nmV
  generalize (if r.2 then none else rv s r.1) = q
  cases q with
  | none => rfl
  | some p => simp [oN]
def sStore (s : ByteArray) (K1 K2 : Nat) : Store := ⟨(itV s (nmN s (0, false)) K1).2, (itC s (nmN s (itV s (nmN s (0, false)) K1).1) K2).2, shT s (itC s (nmN s (itV s (nmN s (0, false)) K1).1) K2).1⟩
def sEnd (s : ByteArray) (K1 K2 : Nat) : Nat × Bool := shN s (itC s (nmN s (itV s (nmN s (0, false)) K1).1) K2).1
/-- Where the two loops stop. -/
structure Stops (s : ByteArray) (K1 K2 : Nat) : Prop where
  a1 : K1 ≤ 100
  a2 : K1 ≤ nmV s (0, false)
  a3 : ∀ j, j < K1 → (itV s (nmN s (0, false)) j).1.2 = false
  a4 : ¬ (K1 < nmV s (0, false) ∧ K1 < 100 ∧ (itV s (nmN s (0, false)) K1).1.2 = false)
  b1 : K2 ≤ 2100
  b2 : K2 ≤ nmV s (itV s (nmN s (0, false)) K1).1
  b3 : ∀ j, j < K2 → (itC s (nmN s (itV s (nmN s (0, false)) K1).1) j).1.2 = false
  b4 : ¬ (K2 < nmV s (itV s (nmN s (0, false)) K1).1 ∧ K2 < 2100 ∧ (itC s (nmN s (itV s (nmN s (0, false)) K1).1) K2).1.2 = false)
def sOk (s : ByteArray) (K1 K2 : Nat) : Bool := !(sEnd s K1 K2).2 && (storeOk (sStore s K1 K2) && decide (storeT (sStore s K1 K2) = s))
end Go.Proofs.YtcggnolnakgkeaaDoor
/- Stores read back. Conditions: those that each theorem names. -/
set_option linter.unusedSimpArgs false
set_option linter.unusedVariables false
namespace Go.Sim
/-- A short text that was read is what lies there. -/
theorem rs_short {s : ByteArray} {a : Nat} {p : Nat × Nat} (h : rs s (a : Nat) = some p) : short (s.extract p.2 (p.2 + p.1)) = s.extract a (p.2 + p.1) ∧ a ≤ p.2 + p.1 ∧ p.2 + p.1 ≤ s.size := by
  have h1 := rs_some h
  have h2 := rv_some h1.1
  have h3 := rv_vt h1.1
  have hz : (s.extract p.2 (p.2 + p.1)).size = p.1 := by simp only [ByteArray.size_extract]; omega
  refine ⟨?_, by omega, h1.2.2⟩
  rw [short, hz, h3, extract_app s a p.2 (p.2 + p.1) (by omega) (by omega)]
end Go.Sim
namespace Go.Proofs.YtcggnolnakgkeaaDoor
open Go Go.Sim Go.Proofs
set_option linter.unusedSimpArgs false
set_option linter.unusedVariables false
theorem shN_bad {s : ByteArray} {r : Nat × Bool} (h : r.2 = true) : (shN s r).2 = true := by simp [shN, h]
theorem shN_good {s : ByteArray} {r : Nat × Bool} (h : (shN s r).2 = false) : r.2 = false := by
  cases e : r.2 with
  | false => rfl
  | true => rw [shN_bad e] at h; cases h
theorem sh_back {s : ByteArray} {r : Nat × Bool} (h : (shN s r).2 = false) : short (shT s r) = s.extract r.1 (shN s r).1 ∧ r.1 ≤ (shN s r).1 ∧ (shN s r).1 ≤ s.size := by
  have hr := shN_good h
  unfold shN at h
  simp only [hr, Bool.false_eq_true, if_false] at h
  cases hq : rs s r.1 with
  | none => rw [hq] at h; cases h
  | some p =>
    have := rs_short hq
    simpa [shT, shN, hr, hq, sT, nxT] using this
theorem itV_good {s : ByteArray} {r : Nat × Bool} : ∀ {i : Nat}, (itV s r i).1.2 = false → r.2 = false ∧ ∀ j, j ≤ i → (itV s r j).1.2 = false
  | 0, h => ⟨h, fun j hj => by have : j = 0 := by omega
                               subst this; exact h⟩
  | i + 1, h => by
    have h1 := itV_good (i := i) (shN_good (shN_good h))
    exact ⟨h1.1, fun j hj => by
      by_cases e : j = i + 1
      · subst e; exact h
      · exact h1.2 j (by omega)⟩
theorem itC_good {s : ByteArray} {r : Nat × Bool} : ∀ {i : Nat}, (itC s r i).1.2 = false → r.2 = false ∧ ∀ j, j ≤ i → (itC s r j).1.2 = false
  | 0, h => ⟨h, fun j hj => by have : j = 0 := by omega
                               subst this; exact h⟩
  | i + 1, h => by
    have h1 := itC_good (i := i) (shN_good (shN_good (shN_good h)))
    exact ⟨h1.1, fun j hj => by
      by_cases e : j = i + 1
      · subst e; exact h
      · exact h1.2 j (by omega)⟩
theorem extract_self (s : ByteArray) (a : Nat) : s.extract a a = ⟨#[]⟩ := by
  apply ByteArray.ext
  simp
theorem itV_text {s : ByteArray} {r : Nat × Bool} (hr : r.1 ≤ s.size) : ∀ {i : Nat}, (itV s r i).1.2 = false → cat ((itV s r i).2.map Var.txt) = s.extract r.1 (itV s r i).1.1 ∧ r.1 ≤ (itV s r i).1.1 ∧ (itV s r i).1.1 ≤ s.size
  | 0, h => ⟨by simp only [itV, extract_self]; rfl, Nat.le_refl _, hr⟩
  | i + 1, h => by
    have g1 := shN_good h
    have b2 := sh_back h
    have b1 := sh_back g1
    have ih := itV_text hr (i := i) (shN_good g1)
    simp only [itV, List.map_append, List.map_cons, List.map_nil, cat_snoc, Var.txt]
    rw [ih.1, b1.1, b2.1, extract_app s _ _ _ b1.2.1 b2.2.1, extract_app s _ _ _ ih.2.1 (by omega)]
    exact ⟨rfl, by omega, b2.2.2⟩
theorem itC_text {s : ByteArray} {r : Nat × Bool} (hr : r.1 ≤ s.size) : ∀ {i : Nat}, (itC s r i).1.2 = false → cat ((itC s r i).2.map Cell.txt) = s.extract r.1 (itC s r i).1.1 ∧ r.1 ≤ (itC s r i).1.1 ∧ (itC s r i).1.1 ≤ s.size
  | 0, h => ⟨by simp only [itC, extract_self]; rfl, Nat.le_refl _, hr⟩
  | i + 1, h => by
    have g2 := shN_good h
    have g1 := shN_good g2
    have b3 := sh_back h
    have b2 := sh_back g2
    have b1 := sh_back g1
    have ih := itC_text hr (i := i) (shN_good g1)
    simp only [itC, List.map_append, List.map_cons, List.map_nil, cat_snoc, Cell.txt]
    rw [ih.1, b1.1, b2.1, b3.1, extract_app s _ _ _ b1.2.1 b2.2.1, extract_app s _ _ _ (by omega) b3.2.1, extract_app s _ _ _ ih.2.1 (by omega)]
    exact ⟨rfl, by omega, b3.2.2⟩
theorem nm_back {s : ByteArray} {r : Nat × Bool} (h : (nmN s r).2 = false) : r.2 = false ∧ vt (nmV s r : Nat) = s.extract r.1 (nmN s r).1 ∧ r.1 ≤ (nmN s r).1 ∧ (nmN s r).1 ≤ s.size := by
  unfold nmN nmV at *
  cases hr : r.2 with
  | true => simp [hr] at h
  | false =>
    simp only [hr, Bool.false_eq_true, if_false] at h ⊢
    cases hq : rv s r.1 with
    | none => rw [hq] at h; cases h
    | some p =>
      have h3 := rv_vt hq
      have h2 := rv_some hq
      simp only [oN, nxN, Int.toNat_natCast]
      exact ⟨trivial, h3, by omega, h2.2.2.2⟩
theorem s_text {s : ByteArray} {K1 K2 : Nat} (h : (sEnd s K1 K2).2 = false) :
    vt (nmV s (0, false) : Nat) ++ cat ((sStore s K1 K2).vars.map Var.txt) ++ vt (nmV s (itV s (nmN s (0, false)) K1).1 : Nat) ++ cat ((sStore s K1 K2).cells.map Cell.txt) ++ short (sStore s K1 K2).out = s.extract 0 (sEnd s K1 K2).1 ∧ (sEnd s K1 K2).1 ≤ s.size ∧
    (∀ j, j ≤ K1 → (itV s (nmN s (0, false)) j).1.2 = false) ∧ (∀ j, j ≤ K2 → (itC s (nmN s (itV s (nmN s (0, false)) K1).1) j).1.2 = false) ∧ (nmN s (0, false)).2 = false ∧ (nmN s (itV s (nmN s (0, false)) K1).1).2 = false := by
  unfold sEnd at h ⊢
  have b5 := sh_back h
  have gC := shN_good h
  have kC := itC_good gC
  have b3 := nm_back kC.1
  have kV := itV_good b3.1
  have b1 := nm_back kV.1
  have t2 := itV_text b1.2.2.2 b3.1
  have t4 := itC_text b3.2.2.2 gC
  simp only [sStore]
  refine ⟨?_, b5.2.2, kV.2, kC.2, kV.1, kC.1⟩
  rw [b1.2.1, t2.1, b3.2.1, t4.1, b5.1, extract_app s _ _ _ b1.2.2.1 t2.2.1, extract_app s _ _ _ (by omega) b3.2.2.1, extract_app s _ _ _ (by omega) t4.2.1, extract_app s _ _ _ (by omega) b5.2.1]
theorem ct_le {s : ByteArray} {most : Nat} {r : Nat × Bool} (h : nmV s r ≤ most) : ctM s most r = nmV s r ∧ ctN s most r = nmN s r := by
  unfold ctM ctV ctN nmN
  rw [nmV_eq, if_neg (by omega), decide_eq_false (by omega), Bool.or_false]
  exact ⟨rfl, rfl⟩
theorem ct_good {s : ByteArray} {most : Nat} {r : Nat × Bool} (h : (ctN s most r).2 = false) : nmV s r ≤ most := by
  unfold ctN at h
  rw [nmV_eq] at h
  simp only [Bool.or_eq_false_iff, decide_eq_false_iff_not] at h
  omega
theorem same_read {s : ByteArray} {K1 K2 : Nat} (e1 : K1 = nmV s (0, false)) (l1 : K1 ≤ 60) (e2 : K2 = nmV s (itV s (nmN s (0, false)) K1).1) (l2 : K2 ≤ 2000) : iStore s = sStore s K1 K2 ∧ shN s (iC s).1 = sEnd s K1 K2 := by
  have c1 := ct_le (most := 60) (show nmV s (0, false) ≤ 60 by omega)
  have eL : iL s = itV s (nmN s (0, false)) K1 := by
    rw [iL, show (60 : Int) = ((60 : Nat) : Int) from rfl, c1.1, c1.2, e1]
  have c2 := ct_le (most := 2000) (show nmV s (itV s (nmN s (0, false)) K1).1 ≤ 2000 by omega)
  have eC : iC s = itC s (nmN s (itV s (nmN s (0, false)) K1).1) K2 := by
    rw [iC, eL, show (2000 : Int) = ((2000 : Nat) : Int) from rfl, c2.1, c2.2, ← e2]
  exact ⟨by rw [iStore, sStore, eL, eC], by rw [sEnd, eC]⟩
theorem read_agree {s : ByteArray} {K1 K2 : Nat} (st : Stops s K1 K2) : sOk s K1 K2 = iOk s ∧ (iOk s = true → sStore s K1 K2 = iStore s) := by
  have key : (sOk s K1 K2 = true ∨ iOk s = true) → sOk s K1 K2 = true ∧ iOk s = true ∧ sStore s K1 K2 = iStore s := by
    intro hh
    have facts : K1 = nmV s (0, false) ∧ K1 ≤ 60 ∧ K2 = nmV s (itV s (nmN s (0, false)) K1).1 ∧ K2 ≤ 2000 := by
      rcases hh with h | h
      · simp only [sOk, Bool.and_eq_true, Bool.not_eq_true', decide_eq_true_eq] at h
        have t := s_text h.1
        have l := storeOk_len h.2.1
        simp only [sStore, itV_len, itC_len] at l
        have a4 := st.a4
        have b4 := st.b4
        have a2 := st.a2
        have b2 := st.b2
        have g1 := t.2.2.1 K1 (Nat.le_refl _)
        have g2 := t.2.2.2.1 K2 (Nat.le_refl _)
        refine ⟨?_, l.1, ?_, l.2.1⟩
        · by_cases e : K1 < nmV s (0, false)
          · exact absurd ⟨e, by omega, g1⟩ a4
          · omega
        · by_cases e : K2 < nmV s (itV s (nmN s (0, false)) K1).1
          · exact absurd ⟨e, by omega, g2⟩ b4
          · omega
      · simp only [iOk, Bool.and_eq_true, Bool.not_eq_true', decide_eq_true_eq] at h
        have gC := shN_good h.1.1
        have kC := itC_good gC
        have n2 : nmV s (iL s).1 ≤ 2000 := ct_good (most := 2000) kC.1
        have c2 := ct_le n2
        have b3 := nm_back (c2.2 ▸ kC.1)
        have kV := itV_good b3.1
        have n1 : nmV s (0, false) ≤ 60 := ct_good (most := 60) kV.1
        have c1 := ct_le n1
        have eL : iL s = itV s (nmN s (0, false)) (nmV s (0, false)) := by
          rw [iL, show (60 : Int) = ((60 : Nat) : Int) from rfl, c1.1, c1.2]
        have a2 := st.a2
        have e1 : K1 = nmV s (0, false) := by
          by_cases e : K1 < nmV s (0, false)
          · refine absurd ⟨e, by omega, ?_⟩ st.a4
            have := kV.2 K1 (by rw [show (60 : Int) = ((60 : Nat) : Int) from rfl, c1.1]; omega)
            rw [show (60 : Int) = ((60 : Nat) : Int) from rfl, c1.2] at this
            exact this
          · omega
        have eL' : itV s (nmN s (0, false)) K1 = iL s := by rw [eL, e1]
        have b2 := st.b2
        have b4 := st.b4
        rw [eL'] at b2 b4 ⊢
        refine ⟨e1, by omega, ?_, by omega⟩
        by_cases e : K2 < nmV s (iL s).1
        · refine absurd ⟨e, by omega, ?_⟩ b4
          have := kC.2 K2 (by rw [show (2000 : Int) = ((2000 : Nat) : Int) from rfl, c2.1]; omega)
          rw [show (2000 : Int) = ((2000 : Nat) : Int) from rfl, c2.2] at this
          exact this
        · omega
    have sm := same_read facts.1 facts.2.1 facts.2.2.1 facts.2.2.2
    have txt : (sEnd s K1 K2).2 = false → storeT (sStore s K1 K2) = s.extract 0 (sEnd s K1 K2).1 ∧ (sEnd s K1 K2).1 ≤ s.size := fun h => by
      have t := s_text h
      have v1 : (sStore s K1 K2).vars.length = nmV s (0, false) := by rw [← facts.1]; exact itV_len _ _ _
      have v2 : (sStore s K1 K2).cells.length = nmV s (itV s (nmN s (0, false)) K1).1 := by rw [← facts.2.2.1]; exact itC_len _ _ _
      refine ⟨?_, t.2.1⟩
      rw [← t.1, storeT, varsT_all, cellsT_all, v1, v2]
    rcases hh with h | h
    · refine ⟨h, ?_, sm.1.symm⟩
      simp only [sOk, Bool.and_eq_true, Bool.not_eq_true', decide_eq_true_eq] at h
      have t := txt h.1
      rw [h.2.2] at t
      have hz := congrArg ByteArray.size t.1
      simp only [ByteArray.size_extract] at hz
      simp only [iOk, Bool.and_eq_true, Bool.not_eq_true', decide_eq_true_eq, sm.1, sm.2]
      exact ⟨⟨h.1, by omega⟩, h.2.1⟩
    · refine ⟨?_, h, sm.1.symm⟩
      simp only [iOk, Bool.and_eq_true, Bool.not_eq_true', decide_eq_true_eq, sm.1, sm.2] at h
      have t := txt h.1.1
      simp only [sOk, Bool.and_eq_true, Bool.not_eq_true', decide_eq_true_eq]
      refine ⟨h.1.1, h.2, ?_⟩
      rw [t.1, show (sEnd s K1 K2).1 = s.size by omega, extract_all]
  cases hs : sOk s K1 K2 <;> cases hi : iOk s <;> simp_all
end Go.Proofs.YtcggnolnakgkeaaDoor
/- Lines of slices that grow: what a heap that stands for a world tells of them; writes into one's own slices. Conditions: those that each theorem names. -/
set_option linter.unusedVariables false
set_option linter.unusedSimpArgs false
namespace Go.Sim
variable {P : Program} {h : AH}

structure Fit (h : AH) : Prop where
  tipu : ∀ i j ci cj n, h.ob i = .cells ci .tip n → h.ob j = .cells cj .tip n → i = j
  solo : ∀ i cs n, h.ob i = .cells cs .solo n → n = i ∧ ∀ j, (h.ob j).own = some i → j = i
theorem CC.withFit {f : FuncId} {args : List Value} {R : Value → AH → Prop} (hc : Fit h → CC P f args h R) : CC P f args h R := fun FB w0 μ w cargs o a K Q s => hc ⟨s.tipu, s.solo⟩ FB w0 μ w cargs o a K Q s
/-- What stands in an object that one may write: its line. -/
structure Line (h : AH) (i ln : Nat) : Prop where
  ob : ∃ all st, h.ob i = .cells all st ln ∧ (st = .solo ∨ st = .tip)
theorem Fit.ne (f : Fit h) {i j li lj : Nat} (a : Line h i li) (b : Line h j lj) (hij : i ≠ j) : (h.ob j).own ≠ some li := by
  obtain ⟨ca, sa, ea, ha⟩ := a.ob
  obtain ⟨cb, sb, eb, hb⟩ := b.ob
  rw [eb]
  intro e
  have e2 : lj = li := by
    rcases hb with rfl | rfl <;> simpa [AOb.own] using e
  subst e2
  rcases ha with rfl | rfl
  · have := f.solo i ca lj ea
    exact hij (this.2 j (by rw [eb]; rcases hb with rfl | rfl <;> simp [AOb.own, this.1])).symm
  · rcases hb with rfl | rfl
    · have := f.solo j cb lj eb
      exact hij (this.2 i (by rw [ea]; simp [AOb.own, this.1]))
    · exact hij (f.tipu i j ca cb lj ea eb)
/-- One's own slice is written in place. -/
theorem wrO_own {i ln off : Nat} {all : List Value} {st : Stat} (e : h.ob i = .cells all st ln) (hs : st = .solo ∨ st = .tip) (vs : List Value) (hb : off + vs.length ≤ all.length) :
    ∃ h', wrO h i (h.ob i) off vs = some h' ∧ h'.n = h.n ∧ h'.ob i = .cells (putL all off vs) st ln ∧ ∀ j, j ≠ i → (h.ob j).own ≠ some ln → h'.ob j = h.ob j := by
  rw [e]
  rcases hs with rfl | rfl
  · refine ⟨h.set i (.cells (putL all off vs) .solo ln), by rw [wrO_solo, if_pos hb], rfl, set_same _ _, fun j hj _ => set_ne _ hj⟩
  · refine ⟨(h.kill ln).set i (.cells (putL all off vs) .tip ln), by rw [wrO_tip, if_pos hb], rfl, set_same _ _, fun j hj ho => ?_⟩
    rw [set_ne _ hj]
    simp only [AH.kill, ho, if_false]
end Go.Sim
/- Marks: one's own slices are written over, field by field. Conditions: those that each theorem names. -/
set_option linter.unusedVariables false
set_option linter.unusedSimpArgs false
namespace Go.Sim
variable {P : Program} {h : AH}

/-- Only this object was written, and what is stale by it forgotten. -/
structure Wr (h h' : AH) (id : Nat) : Prop where
  n : h'.n = h.n
  line : ∀ l, Line h id l ↔ Line h' id l
  ob : ∀ j, j ≠ id → (∀ l, Line h id l → (h.ob j).own ≠ some l) → h'.ob j = h.ob j
theorem Wr.refl (h : AH) (id : Nat) : Wr h h id := ⟨rfl, fun _ => Iff.rfl, fun _ _ _ => rfl⟩
theorem Wr.trans {a b c : AH} {id : Nat} (x : Wr a b id) (y : Wr b c id) : Wr a c id :=
  ⟨y.n.trans x.n, fun l => (x.line l).trans (y.line l), fun j hj hl => by
    have e := x.ob j hj hl
    rw [← e]
    refine y.ob j hj (fun l hb => ?_)
    rw [e]
    exact hl l ((x.line l).2 hb)⟩
theorem Own.line {id off n k : Nat} {cs : List Value} (w : Own h id off n k cs) : ∃ l, Line h id l := by
  obtain ⟨all, st, ln, e, hs, _, _⟩ := w.ob
  exact ⟨ln, ⟨all, st, e, hs⟩⟩
theorem Line.uniq {id l l' : Nat} (a : Line h id l) (b : Line h id l') : l = l' := by
  obtain ⟨_, _, e, _⟩ := a.ob
  obtain ⟨_, _, e', _⟩ := b.ob
  rw [e] at e'
  injection e'
/-- What stands beside it stays. -/
theorem Wr.keep {h' : AH} {id j : Nat} (w : Wr h h' id) (f : Fit h) {li : Nat} (hi : Line h id li) (hj : j ≠ id) (hl : (∃ lj, Line h j lj) ∨ (h.ob j).own = none) : h'.ob j = h.ob j := by
  refine w.ob j hj (fun l hl' => ?_)
  rcases hl with ⟨lj, hl⟩ | hl
  · exact f.ne hl' hl (fun e => hj e.symm)
  · rw [hl]; exact fun e => by cases e
theorem putL_in' {vs cs : List Value} {o j : Nat} (h1 : o ≤ j) (h2 : j < o + vs.length) (h3 : o + vs.length ≤ cs.length) : (putL cs o vs)[j]? = vs[j - o]? := by
  have := putL_in vs cs o (j - o) (by omega) h3
  rw [show o + (j - o) = j by omega] at this
  rw [this, List.getElem?_eq_getElem]
theorem Own.wr {id off n k : Nat} {cs : List Value} (w : Own h id off n k cs) {lo : Nat} {vs : List Value} (hb : lo + vs.length ≤ n * k) {K : AH → Prop}
    (hk : ∀ h', Own h' id off n k (putL cs lo vs) → Wr h h' id → K h') : onS (wrO h id (h.ob id) (off + lo) vs) K := by
  obtain ⟨all, st, ln, e, hs, hl, hd⟩ := w.ob
  obtain ⟨h', e1, hn, e2, e3⟩ := wrO_own e hs vs (off := off + lo) (by omega)
  rw [e1]
  refine hk h' ⟨by rw [hn]; exact w.lt, by rw [putL_length]; exact w.len, _, st, ln, e2, hs, by rw [putL_length]; exact hl, ?_⟩ ⟨hn, fun l => ?_, fun j hj ho => e3 j hj (ho ln ⟨all, st, e, hs⟩)⟩
  · rw [← hd]
    apply List.ext_getElem?
    intro m
    rw [List.getElem?_drop]
    by_cases h1 : m < lo
    · rw [putL_out _ _ _ _ (.inl (by omega)), putL_out _ _ _ _ (.inl h1), List.getElem?_drop]
    · by_cases h2 : m < lo + vs.length
      · rw [putL_in' (by omega) (by omega) (by omega), putL_in' (by omega) (by omega) (by simp; omega)]
        congr 1; omega
      · rw [putL_out _ _ _ _ (.inr (by omega)), putL_out _ _ _ _ (.inr (by omega)), List.getElem?_drop]
  · constructor
    · rintro ⟨a, s, ea, hs'⟩
      rw [e] at ea
      obtain ⟨rfl, rfl, rfl⟩ : all = a ∧ st = s ∧ ln = l := by simpa using ea
      exact ⟨_, _, e2, hs⟩
    · rintro ⟨a, s, ea, hs'⟩
      rw [e2] at ea
      obtain ⟨_, rfl, rfl⟩ : _ = a ∧ st = s ∧ ln = l := by simpa using ea
      exact ⟨_, _, e, hs⟩
/-- What stands: it is not written to beside. -/
def live (h : AH) (j : Nat) : Prop := (∃ l, Line h j l) ∨ (h.ob j).own = none
/-- Only this slice was written. -/
structure WrV (h h' : AH) (v : Value) : Prop where
  n : h'.n = h.n
  ob : ∀ j, ¬ atBlock v j → live h j → h'.ob j = h.ob j
theorem WrV.refl (h : AH) (v : Value) : WrV h h v := ⟨rfl, fun _ _ _ => rfl⟩
theorem Wr.toV {h' : AH} {id off n m c k : Nat} {cs : List Value} (w : Wr h h' id) (f : Fit h) (o : Own h id off n k cs) : WrV h h' (.slice (some ⟨id, off, none⟩) m c) := by
  obtain ⟨l, hl⟩ := o.line
  exact ⟨w.n, fun j hj hv => w.keep f hl (fun e => hj (show id = j from e.symm)) hv⟩
theorem Gr.live {n0 : Nat} {v : Value} {k : Nat} {cs : List Value} (w : Gr n0 h v k cs) {i : Nat} (e : atBlock v i) : live h i := by
  rcases w with ⟨c, rfl, rfl⟩ | ⟨id, off, n, rfl, b, o⟩
  · exact e.elim
  · have e' : id = i := e
    subst e'
    exact .inl o.line
/-- The marks from k on. -/
def marks (f : Nat → Value) (k n : Nat) : List Value := (List.range n).map fun j => f (k + j)
theorem marks_length (f : Nat → Value) (k n : Nat) : (marks f k n).length = n := by simp [marks]
theorem marks_get (f : Nat → Value) (k n : Nat) {j : Nat} (h : j < n) : (marks f k n)[j]? = some (f (k + j)) := by simp [marks, h]
/-- The first i cells are marked. -/
def Mkd (f : Nat → Value) (k : Nat) (cs : List Value) (i : Nat) : Prop := ∀ j, j < i → cs[j]? = some (f (k + j))
theorem Mkd.zero (f : Nat → Value) (k : Nat) (cs : List Value) : Mkd f k cs 0 := fun j hj => absurd hj (Nat.not_lt_zero j)
theorem Mkd.put {f : Nat → Value} {k : Nat} {cs : List Value} {i : Nat} (m : Mkd f k cs i) (hi : i < cs.length) {v : Value} (hv : v = f (k + i)) : Mkd f k (putL cs i [v]) (i + 1) := fun j hj => by
  by_cases e : j = i
  · subst e; rw [putL_in' (Nat.le_refl _) (by simp) (by simp; omega)]; simp [hv]
  · rw [putL_out _ _ _ _ (.inl (by omega))]; exact m j (by omega)
theorem Mkd.all {f : Nat → Value} {k : Nat} {cs : List Value} {n : Nat} (m : Mkd f k cs n) (hn : cs.length = n) : cs = marks f k n := by
  apply List.ext_getElem?
  intro j
  by_cases hj : j < n
  · rw [m j hj, marks_get f k n hj]
  · rw [List.getElem?_eq_none (by omega), List.getElem?_eq_none (by rw [marks_length]; omega)]

/-- The figures of a number, ahead of a text. -/
def dg : Nat → Nat → ByteArray → ByteArray
  | 0, _, o => o
  | f + 1, k, o => if k = 0 then o else dg f (k / 10) (⟨#[UInt8.ofNat (48 + k % 10)]⟩ ++ o)
def mt (k : Nat) : ByteArray := ⟨#[109]⟩ ++ dg k k ⟨#[]⟩
theorem dg_zero (f : Nat) (o : ByteArray) : dg f 0 o = o := by cases f <;> rfl
theorem dg_fuel : ∀ {f g k : Nat} (o : ByteArray), k ≤ f → k ≤ g → dg f k o = dg g k o
  | f, g, 0, o, _, _ => by rw [dg_zero, dg_zero]
  | 0, _, k + 1, _, h, _ => absurd h (by omega)
  | _, 0, k + 1, _, _, h => absurd h (by omega)
  | f + 1, g + 1, k + 1, o, hf, hg => by
    simp only [dg]
    rw [if_neg (by omega), if_neg (by omega)]
    exact dg_fuel _ (by omega) (by omega)
theorem dg_step {k : Nat} (hk : 0 < k) (o : ByteArray) : dg k k o = dg (k / 10) (k / 10) (⟨#[UInt8.ofNat (48 + k % 10)]⟩ ++ o) := by
  obtain ⟨k', rfl⟩ : ∃ k', k = k' + 1 := ⟨k - 1, by omega⟩
  rw [dg, if_neg (by omega)]
  exact dg_fuel _ (by omega) (Nat.le_refl _)
end Go.Sim
namespace Go.Proofs.YtcggnolnakgkeaaDoor
open Go Go.Sim Go.Proofs
set_option linter.unusedSimpArgs false
set_option linter.unusedVariables false
set_option maxRecDepth 100000
set_option maxHeartbeats 1000000
theorem markText_c (k : Nat) (h0 : 0 < k) (hk : k < 4000000000000) (h : AH) : CD Tryd.prog 74 [.int .i64 (k : Nat)] h (.string (mt k)) h := by
  refine CD.quiet ?_ (low_string _ _)
  refine CC.ofN Tryd.func74 Tryd.ntmps74 Tryd.results74 rfl (by decide) (by kernel_rfl) ?_
  simp (maxSteps := 1000000) -implicitDefEqProofs only [push_cast, seval]
  with_reducible refine bcase_d (fun hb => ?_) (fun hb => ?_)
  · exfalso; omega
  simp (maxSteps := 1000000) -implicitDefEqProofs only [push_cast, seval]
  refine WC.loopA (by kernel_rfl) [0, 3] [6, 7, 8, 9, 10, 11, 12, 13, 14, 15, 16, 17] (fun a : Nat × ByteArray => [.int .i64 (a.1 : Nat), .string a.2]) (fun a h' => (dg a.1 a.1 a.2 = dg k k ⟨#[]⟩ ∧ a.2.size + a.1 ≤ k) ∧ Pre h h') (fun a => a.1) (k, ⟨#[]⟩) (by kernel_rfl) ⟨⟨rfl, by show 0 + k ≤ k; omega⟩, Pre.refl _⟩ ?_
  intro a g h1 hJ
  have hd := hJ.1.1
  have hl := hJ.1.2
  have hp := hJ.2
  clear hJ
  simp (maxSteps := 1000000) -implicitDefEqProofs only [push_cast, seval]
  with_reducible refine bcase_d (fun hb => ?_) (fun hb => ?_)
  · have e1 : (IntKind.u8.wrap (IntKind.i64.wrap (48 + (a.1 : Int).tmod 10))).toNat = 48 + a.1 % 10 := by
      rw [Int.tmod_eq_emod_of_nonneg (by omega), w64 (by omega) (by omega), w8 (by omega) (by omega)]; omega
    have e2 : IntKind.i64.wrap ((a.1 : Int).tdiv 10) = ((a.1 / 10 : Nat) : Int) := by
      rw [Int.tdiv_eq_ediv_of_nonneg (by omega), w64 (by omega) (by omega)]; omega
    simp (maxSteps := 1000000) -implicitDefEqProofs only [push_cast, seval, e1, e2]
    have z1 : (ByteArray.mk #[UInt8.ofNat (48 + a.1 % 10)]).size = 1 := rfl
    refine And.intro (by rw [z1]; omega) ⟨(a.1 / 10, ⟨#[UInt8.ofNat (48 + a.1 % 10)]⟩ ++ a.2), by kernel_rfl, ⟨⟨?_, ?_⟩, hp.alloc _⟩, ?_⟩
    · rw [← hd, dg_step (k := a.1) (by omega)]
    · show (ByteArray.mk #[UInt8.ofNat (48 + a.1 % 10)] ++ a.2).size + a.1 / 10 ≤ k
      rw [ByteArray.size_append, z1]; omega
    · show a.1 / 10 < a.1
      omega
  · have e : a.1 = 0 := by omega
    have z1 : (ByteArray.mk #[109]).size = 1 := rfl
    rw [e, dg_zero] at hd
    rw [hd] at hl
    simp (maxSteps := 1000000) -implicitDefEqProofs only [push_cast, seval]
    refine And.intro (by rw [z1, hd]; omega) ?_
    repeat' (first | with_reducible (first | exact Keep.refl _ _ | assumption | exact byte_lt _ _ | apply Keep.alloc | (refine Keep.set ?_ ?_; rotate_left; · omega) | apply Pre.alloc | apply Pre.set | exact Pre.refl _ | exact le_alloc _ | (refine Pre.keep ?_; assumption) | (refine Pre.n ?_; assumption)) | ((with_reducible (first | refine bcase_d (fun hb => ?_) (fun hb => ?_) | refine bcase_mk (fun hb => ?_) (fun hb => ?_))) <;> try simp (maxSteps := 1000000) -implicitDefEqProofs only [push_cast, seval]) | with_reducible refine And.intro ?_ ?_ | omega | (simp only [alloc_n, set_n, kill_n]; omega) | (exfalso; omega))
    rw [hd]; rfl
/-- A slice whose cells are marked. -/
def fS (k : Nat) : Value := .string (mt k)
def fI (k : Nat) : Value := .int .i64 (k : Nat)
theorem markVarS_o (id off n : Nat) (cs : List Value) (k : Nat) (h : AH) (o : Own h id off n 2 cs) (h0 : 0 < k) (hk : k + n * 2 < 4000000000000) (hn : n < 274877906944) :
    CC Tryd.prog 45 [.slice (some ⟨id, off, none⟩) n 2, .int .i64 (k : Nat)] h (fun v h' => v = .int .i64 ((k + n * 2 : Nat) : Int) ∧ Own h' id off n 2 (marks fS k (n * 2)) ∧ Wr h h' id) := by
  refine CC.ofN Tryd.func45 Tryd.ntmps45 Tryd.results45 rfl (by decide) (by kernel_rfl) ?_
  simp (maxSteps := 1000000) -implicitDefEqProofs only [push_cast, seval]
  refine WC.loopA (by kernel_rfl) [1, 5] [6, 7, 8, 9, 10, 11, 12, 13, 14, 15, 16, 17, 18, 19, 20, 21, 22, 23, 24, 25, 26, 27] (fun a : Nat × Nat × List Value => [.int .i64 (a.2.1 : Nat), .int .i64 (a.1 : Nat)]) (fun a h' => (a.1 ≤ n ∧ a.2.1 = k + a.1 * 2 ∧ Mkd fS k a.2.2 (a.1 * 2)) ∧ Own h' id off n 2 a.2.2 ∧ Wr h h' id) (fun a => n - a.1) (0, k, cs) (by kernel_rfl) ⟨⟨Nat.zero_le _, rfl, Mkd.zero _ _ _⟩, o, Wr.refl _ _⟩ ?_
  intro a g h1 hJ
  have hi := hJ.1.1
  have hK := hJ.1.2.1
  have hm := hJ.1.2.2
  have o0 := hJ.2.1
  have r0 := hJ.2.2
  clear hJ
  have l0 := o0.lt
  have n0 := o0.len
  simp (maxSteps := 1000000) -implicitDefEqProofs only [push_cast, seval]
  with_reducible refine bcase_d (fun hb => ?_) (fun hb => ?_)
  · have hi' : a.1 < n := by omega
    with_reducible refine nameN (a.2.1 + 1) (fun K1 hK1 => ?_)
    have w1 : IntKind.i64.wrap ((a.2.1 : Int) + 1) = (K1 : Nat) := by rw [wrapSucc (by omega), hK1]
    with_reducible refine nameN (K1 + 1) (fun K2 hK2 => ?_)
    have w2 : IntKind.i64.wrap ((K1 : Int) + 1) = (K2 : Nat) := by rw [wrapSucc (by omega), hK2]
    simp (maxSteps := 1000000) -implicitDefEqProofs only [push_cast, seval]
    with_reducible refine CD.to (markText_c a.2.1 (by omega) (by omega) _) ?_
    simp (maxSteps := 1000000) -implicitDefEqProofs only [push_cast, seval, l0, w1, w2]
    refine And.intro (by omega) (And.intro (by omega) ?_)
    refine (show Own _ id off n 2 _ from o0).wr (lo := a.1 * 2) (vs := [.string (mt a.2.1)]) (by simp only [List.length_cons, List.length_nil]; omega) (fun h2 o1 q1 => ?_)
    have l1 := o1.lt
    simp (maxSteps := 1000000) -implicitDefEqProofs only [push_cast, seval, l1, w1, w2]
    with_reducible refine CD.to (markText_c K1 (by omega) (by omega) _) ?_
    simp (maxSteps := 1000000) -implicitDefEqProofs only [push_cast, seval, l1, w1, w2]
    refine And.intro (by omega) (And.intro (by omega) ?_)
    refine (show Own _ id off n 2 _ from o1).wr (lo := a.1 * 2 + 1) (vs := [.string (mt K1)]) (by simp only [List.length_cons, List.length_nil]; omega) (fun h3 o2 q2 => ?_)
    have l2 := o2.lt
    simp (maxSteps := 1000000) -implicitDefEqProofs only [push_cast, seval, l2, w1, w2]
    rw [wrapSucc (by omega)]
    refine ⟨(a.1 + 1, K2, putL (putL (a.2.2) (a.1 * 2) [.string (mt a.2.1)]) (a.1 * 2 + 1) [.string (mt K1)]), by kernel_rfl, ⟨⟨by show a.1 + 1 ≤ n; omega, by show K2 = k + (a.1 + 1) * 2; omega, ?_⟩, o2, r0.trans ((q1).trans q2)⟩, by show n - (a.1 + 1) < n - a.1; omega⟩
    rw [show (a.1 + 1) * 2 = a.1 * 2 + 1 + 1 from by omega]
    exact ((hm).put (by (try simp only [putL_length]); omega) (by show _ = fS _; rw [show k + (a.1 * 2) = a.2.1 by omega]; rfl)).put (by (try simp only [putL_length]); omega) (by show _ = fS _; rw [show k + (a.1 * 2 + 1) = K1 by omega]; rfl)
  · have e : a.1 = n := by omega
    simp (maxSteps := 1000000) -implicitDefEqProofs only [push_cast, seval]
    rw [e] at hm
    have hq := hm.all n0
    rw [hq] at o0
    refine ⟨?_, o0, r0⟩
    rw [hK, e]
    push_cast
    rfl

theorem heldVarS_o (id off n c : Nat) (k : Nat) (h : AH) (o : Own h id off n 2 (marks fS k (n * 2))) (h0 : 0 < k) (hk : k + n * 2 < 4000000000000) (hn : n < 274877906944) :
    CD Tryd.prog 47 [.slice (some ⟨id, off, none⟩) n c, .int .i64 (k : Nat)] h (.int .i64 ((k + n * 2 : Nat) : Int)) h := by
  refine CD.quiet ?_ (low_int _ _ _)
  refine CC.ofN Tryd.func47 Tryd.ntmps47 Tryd.results47 rfl (by decide) (by kernel_rfl) ?_
  simp (maxSteps := 1000000) -implicitDefEqProofs only [push_cast, seval]
  refine WC.loopA (by kernel_rfl) [1, 5] [4, 6, 7, 8, 9, 10, 11, 12, 13, 14, 15, 16, 17, 18, 19, 20, 21, 22, 23, 24, 25, 26, 27, 28, 29, 30, 31] (fun a : Nat × Nat => [.int .i64 (a.2 : Nat), .int .i64 (a.1 : Nat)]) (fun a h' => (a.1 ≤ n ∧ a.2 = k + a.1 * 2) ∧ Pre h h') (fun a => n - a.1) (0, k) (by kernel_rfl) ⟨⟨Nat.zero_le _, rfl⟩, Pre.refl _⟩ ?_
  intro a g h1 hJ
  have hi := hJ.1.1
  have hK := hJ.1.2
  have hp := hJ.2
  clear hJ
  have o1 := o.pre hp
  have l1 := o1.lt
  simp (maxSteps := 1000000) -implicitDefEqProofs only [push_cast, seval]
  with_reducible refine bcase_d (fun hb => ?_) (fun hb => ?_)
  · have hi' : a.1 < n := by omega
    with_reducible refine nameN (a.2 + 1) (fun K1 hK1 => ?_)
    have w1 : IntKind.i64.wrap ((a.2 : Int) + 1) = (K1 : Nat) := by rw [wrapSucc (by omega), hK1]
    with_reducible refine nameN (K1 + 1) (fun K2 hK2 => ?_)
    have w2 : IntKind.i64.wrap ((K1 : Int) + 1) = (K2 : Nat) := by rw [wrapSucc (by omega), hK2]
    have g0 : rd1 h1 id (off + a.1 * 2) = some (.string (mt a.2)) := by
      have := o1.rd1 (j := a.1 * 2) (by omega)
      rw [show off + a.1 * 2 = off + (a.1 * 2) by omega, this, List.getD_eq_getElem?_getD, marks_get fS k (n * 2) (by omega)]
      rw [show k + (a.1 * 2) = a.2 by omega]; rfl
    have g1 : rd1 h1 id (off + a.1 * 2 + 1) = some (.string (mt K1)) := by
      have := o1.rd1 (j := a.1 * 2 + 1) (by omega)
      rw [show off + a.1 * 2 + 1 = off + (a.1 * 2 + 1) by omega, this, List.getD_eq_getElem?_getD, marks_get fS k (n * 2) (by omega)]
      rw [show k + (a.1 * 2 + 1) = K1 by omega]; rfl
    simp (maxSteps := 1000000) -implicitDefEqProofs only [push_cast, seval, l1, w1, w2, g0, g1]
    refine WC.draw' (by kernel_rfl) (by kernel_rfl) (.q 0 (.q 1 (.q 2 (.q 3 (.q 4 (.q 5 (.c 6 (.q 7 (.done))))))))) (by kernel_rfl) ?_
    simp (maxSteps := 1000000) -implicitDefEqProofs only [push_cast, seval, l1, w1, w2, g0, g1]
    refine And.intro (by omega) (And.intro (by omega) ?_)
    simp (maxSteps := 1000000) -implicitDefEqProofs only [push_cast, seval, l1, w1, w2, g0, g1]
    refine CQ.pure (fun h' => markText_c a.2 (by omega) (by omega) h') ?_
    simp (maxSteps := 1000000) -implicitDefEqProofs only [push_cast, seval, l1, w1, w2, g0, g1]
    refine WC.draw' (by kernel_rfl) (by kernel_rfl) (.q 0 (.q 1 (.q 2 (.q 3 (.q 4 (.q 5 (.c 6 (.q 7 (.done))))))))) (by kernel_rfl) ?_
    simp (maxSteps := 1000000) -implicitDefEqProofs only [push_cast, seval, l1, w1, w2, g0, g1]
    refine And.intro (by omega) (And.intro (by omega) ?_)
    simp (maxSteps := 1000000) -implicitDefEqProofs only [push_cast, seval, l1, w1, w2, g0, g1]
    refine CQ.pure (fun h' => markText_c K1 (by omega) (by omega) h') ?_
    simp (maxSteps := 1000000) -implicitDefEqProofs only [push_cast, seval, l1, w1, w2, g0, g1]
    rw [wrapSucc (by omega)]
    exact ⟨(a.1 + 1, K2), by kernel_rfl, ⟨⟨by show a.1 + 1 ≤ n; omega, by show K2 = k + (a.1 + 1) * 2; omega⟩, hp⟩, by show n - (a.1 + 1) < n - a.1; omega⟩
  · have e : a.1 = n := by omega
    simp (maxSteps := 1000000) -implicitDefEqProofs only [push_cast, seval]
    refine ⟨by rw [hK, e]; push_cast; rfl, hp.keep⟩
theorem markVarS_n (c k : Nat) (hk : k < 4000000000000) (h : AH) : CD Tryd.prog 45 [.slice none 0 c, .int .i64 (k : Nat)] h (.int .i64 (k : Nat)) h := by
  refine CD.quiet ?_ (low_int _ _ _)
  refine CC.ofN Tryd.func45 Tryd.ntmps45 Tryd.results45 rfl (by decide) (by kernel_rfl) ?_
  simp (maxSteps := 1000000) -implicitDefEqProofs only [push_cast, seval]
  refine WC.loopA (by kernel_rfl) [1, 5] [6, 7, 8, 9, 10, 11, 12, 13, 14, 15, 16, 17, 18, 19, 20, 21, 22, 23, 24, 25, 26, 27] (fun a : Nat => [.int .i64 (k : Nat), .int .i64 (a : Nat)]) (fun a h' => a = 0 ∧ Pre h h') (fun a => 1 - a) 0 (by kernel_rfl) ⟨rfl, Pre.refl _⟩ ?_
  intro a g h1 hJ
  have e := hJ.1
  have hp := hJ.2
  clear hJ
  subst e
  simp (maxSteps := 1000000) -implicitDefEqProofs only [push_cast, seval]
  repeat' (first | with_reducible (first | exact Keep.refl _ _ | assumption | exact byte_lt _ _ | apply Keep.alloc | (refine Keep.set ?_ ?_; rotate_left; · omega) | apply Pre.alloc | apply Pre.set | exact Pre.refl _ | exact le_alloc _ | (refine Pre.keep ?_; assumption) | (refine Pre.n ?_; assumption)) | ((with_reducible (first | refine bcase_d (fun hb => ?_) (fun hb => ?_) | refine bcase_mk (fun hb => ?_) (fun hb => ?_))) <;> try simp (maxSteps := 1000000) -implicitDefEqProofs only [push_cast, seval]) | with_reducible refine And.intro ?_ ?_ | omega | (simp only [alloc_n, set_n, kill_n]; omega) | (exfalso; omega))
theorem heldVarS_n (c k : Nat) (hk : k < 4000000000000) (h : AH) : CD Tryd.prog 47 [.slice none 0 c, .int .i64 (k : Nat)] h (.int .i64 (k : Nat)) h := by
  refine CD.quiet ?_ (low_int _ _ _)
  refine CC.ofN Tryd.func47 Tryd.ntmps47 Tryd.results47 rfl (by decide) (by kernel_rfl) ?_
  simp (maxSteps := 1000000) -implicitDefEqProofs only [push_cast, seval]
  refine WC.loopA (by kernel_rfl) [1, 5] [4, 6, 7, 8, 9, 10, 11, 12, 13, 14, 15, 16, 17, 18, 19, 20, 21, 22, 23, 24, 25, 26, 27, 28, 29, 30, 31] (fun a : Nat => [.int .i64 (k : Nat), .int .i64 (a : Nat)]) (fun a h' => a = 0 ∧ Pre h h') (fun a => 1 - a) 0 (by kernel_rfl) ⟨rfl, Pre.refl _⟩ ?_
  intro a g h1 hJ
  have e := hJ.1
  have hp := hJ.2
  clear hJ
  subst e
  simp (maxSteps := 1000000) -implicitDefEqProofs only [push_cast, seval]
  repeat' (first | with_reducible (first | exact Keep.refl _ _ | assumption | exact byte_lt _ _ | apply Keep.alloc | (refine Keep.set ?_ ?_; rotate_left; · omega) | apply Pre.alloc | apply Pre.set | exact Pre.refl _ | exact le_alloc _ | (refine Pre.keep ?_; assumption) | (refine Pre.n ?_; assumption)) | ((with_reducible (first | refine bcase_d (fun hb => ?_) (fun hb => ?_) | refine bcase_mk (fun hb => ?_) (fun hb => ?_))) <;> try simp (maxSteps := 1000000) -implicitDefEqProofs only [push_cast, seval]) | with_reducible refine And.intro ?_ ?_ | omega | (simp only [alloc_n, set_n, kill_n]; omega) | (exfalso; omega))
theorem markVarS_c (n0 : Nat) (A : Option Addr) (n : Nat) (cs : List Value) (k : Nat) (h : AH) (o : Gr n0 h (.slice A n 2) 2 cs) (hc : cs.length = n * 2) (h0 : 0 < k) (hk : k + n * 2 < 4000000000000) (hn : n < 274877906944) :
    CC Tryd.prog 45 [.slice A n 2, .int .i64 (k : Nat)] h (fun v h' => v = .int .i64 ((k + n * 2 : Nat) : Int) ∧ Gr n0 h' (.slice A n 2) 2 (marks fS k (n * 2)) ∧ WrV h h' (.slice A n 2)) := by
  refine CC.withFit (fun ft => ?_)
  rcases o with ⟨c, e, e2⟩ | ⟨id, off, m, e, hb, ow⟩
  · injection e with e3 e4 e5
    subst e3 e4 e5 e2
    exact (markVarS_n 2 k (by omega) h).to ⟨rfl, .inl ⟨2, rfl, rfl⟩, WrV.refl _ _⟩
  · injection e with e3 e4
    subst e3 e4
    exact (markVarS_o id off n cs k h ow h0 hk hn).mono (fun v h' ⟨a, b, c⟩ => ⟨a, .inr ⟨id, off, n, rfl, hb, b⟩, c.toV ft ow⟩)
theorem heldVarS_c (n0 : Nat) (A : Option Addr) (n : Nat) (k : Nat) (h : AH) (o : Gr n0 h (.slice A n 2) 2 (marks fS k (n * 2))) (h0 : 0 < k) (hk : k + n * 2 < 4000000000000) (hn : n < 274877906944) :
    CD Tryd.prog 47 [.slice A n 2, .int .i64 (k : Nat)] h (.int .i64 ((k + n * 2 : Nat) : Int)) h := by
  rcases o with ⟨c, e, e2⟩ | ⟨id, off, m, e, hb, ow⟩
  · injection e with e3 e4 e5
    subst e3 e4 e5
    exact heldVarS_n 2 k (by omega) h
  · injection e with e3 e4
    subst e3 e4
    exact heldVarS_o id off n 2 k h ow h0 hk hn

theorem markCellS_o (id off n : Nat) (cs : List Value) (k : Nat) (h : AH) (o : Own h id off n 3 cs) (h0 : 0 < k) (hk : k + n * 3 < 4000000000000) (hn : n < 274877906944) :
    CC Tryd.prog 46 [.slice (some ⟨id, off, none⟩) n 3, .int .i64 (k : Nat)] h (fun v h' => v = .int .i64 ((k + n * 3 : Nat) : Int) ∧ Own h' id off n 3 (marks fS k (n * 3)) ∧ Wr h h' id) := by
  refine CC.ofN Tryd.func46 Tryd.ntmps46 Tryd.results46 rfl (by decide) (by kernel_rfl) ?_
  simp (maxSteps := 1000000) -implicitDefEqProofs only [push_cast, seval]
  refine WC.loopA (by kernel_rfl) [1, 5] [6, 7, 8, 9, 10, 11, 12, 13, 14, 15, 16, 17, 18, 19, 20, 21, 22, 23, 24, 25, 26, 27, 28, 29, 30, 31, 32, 33, 34, 35] (fun a : Nat × Nat × List Value => [.int .i64 (a.2.1 : Nat), .int .i64 (a.1 : Nat)]) (fun a h' => (a.1 ≤ n ∧ a.2.1 = k + a.1 * 3 ∧ Mkd fS k a.2.2 (a.1 * 3)) ∧ Own h' id off n 3 a.2.2 ∧ Wr h h' id) (fun a => n - a.1) (0, k, cs) (by kernel_rfl) ⟨⟨Nat.zero_le _, rfl, Mkd.zero _ _ _⟩, o, Wr.refl _ _⟩ ?_
  intro a g h1 hJ
  have hi := hJ.1.1
  have hK := hJ.1.2.1
  have hm := hJ.1.2.2
  have o0 := hJ.2.1
  have r0 := hJ.2.2
  clear hJ
  have l0 := o0.lt
  have n0 := o0.len
  simp (maxSteps := 1000000) -implicitDefEqProofs only [push_cast, seval]
  with_reducible refine bcase_d (fun hb => ?_) (fun hb => ?_)
  · have hi' : a.1 < n := by omega
    with_reducible refine nameN (a.2.1 + 1) (fun K1 hK1 => ?_)
    have w1 : IntKind.i64.wrap ((a.2.1 : Int) + 1) = (K1 : Nat) := by rw [wrapSucc (by omega), hK1]
    with_reducible refine nameN (K1 + 1) (fun K2 hK2 => ?_)
    have w2 : IntKind.i64.wrap ((K1 : Int) + 1) = (K2 : Nat) := by rw [wrapSucc (by omega), hK2]
    with_reducible refine nameN (K2 + 1) (fun K3 hK3 => ?_)
    have w3 : IntKind.i64.wrap ((K2 : Int) + 1) = (K3 : Nat) := by rw [wrapSucc (by omega), hK3]
    simp (maxSteps := 1000000) -implicitDefEqProofs only [push_cast, seval]
    with_reducible refine CD.to (markText_c a.2.1 (by omega) (by omega) _) ?_
    simp (maxSteps := 1000000) -implicitDefEqProofs only [push_cast, seval, l0, w1, w2, w3]
    refine And.intro (by omega) (And.intro (by omega) ?_)
    refine (show Own _ id off n 3 _ from o0).wr (lo := a.1 * 3) (vs := [.string (mt a.2.1)]) (by simp only [List.length_cons, List.length_nil]; omega) (fun h2 o1 q1 => ?_)
    have l1 := o1.lt
    simp (maxSteps := 1000000) -implicitDefEqProofs only [push_cast, seval, l1, w1, w2, w3]
    with_reducible refine CD.to (markText_c K1 (by omega) (by omega) _) ?_
    simp (maxSteps := 1000000) -implicitDefEqProofs only [push_cast, seval, l1, w1, w2, w3]
    refine And.intro (by omega) (And.intro (by omega) ?_)
    refine (show Own _ id off n 3 _ from o1).wr (lo := a.1 * 3 + 1) (vs := [.string (mt K1)]) (by simp only [List.length_cons, List.length_nil]; omega) (fun h3 o2 q2 => ?_)
    have l2 := o2.lt
    simp (maxSteps := 1000000) -implicitDefEqProofs only [push_cast, seval, l2, w1, w2, w3]
    with_reducible refine CD.to (markText_c K2 (by omega) (by omega) _) ?_
    simp (maxSteps := 1000000) -implicitDefEqProofs only [push_cast, seval, l2, w1, w2, w3]
    refine And.intro (by omega) (And.intro (by omega) ?_)
    refine (show Own _ id off n 3 _ from o2).wr (lo := a.1 * 3 + 2) (vs := [.string (mt K2)]) (by simp only [List.length_cons, List.length_nil]; omega) (fun h4 o3 q3 => ?_)
    have l3 := o3.lt
    simp (maxSteps := 1000000) -implicitDefEqProofs only [push_cast, seval, l3, w1, w2, w3]
    rw [wrapSucc (by omega)]
    refine ⟨(a.1 + 1, K3, putL (putL (putL (a.2.2) (a.1 * 3) [.string (mt a.2.1)]) (a.1 * 3 + 1) [.string (mt K1)]) (a.1 * 3 + 2) [.string (mt K2)]), by kernel_rfl, ⟨⟨by show a.1 + 1 ≤ n; omega, by show K3 = k + (a.1 + 1) * 3; omega, ?_⟩, o3, r0.trans (((q1).trans q2).trans q3)⟩, by show n - (a.1 + 1) < n - a.1; omega⟩
    rw [show (a.1 + 1) * 3 = a.1 * 3 + 1 + 1 + 1 from by omega]
    exact (((hm).put (by (try simp only [putL_length]); omega) (by show _ = fS _; rw [show k + (a.1 * 3) = a.2.1 by omega]; rfl)).put (by (try simp only [putL_length]); omega) (by show _ = fS _; rw [show k + (a.1 * 3 + 1) = K1 by omega]; rfl)).put (by (try simp only [putL_length]); omega) (by show _ = fS _; rw [show k + (a.1 * 3 + 1 + 1) = K2 by omega]; rfl)
  · have e : a.1 = n := by omega
    simp (maxSteps := 1000000) -implicitDefEqProofs only [push_cast, seval]
    rw [e] at hm
    have hq := hm.all n0
    rw [hq] at o0
    refine ⟨?_, o0, r0⟩
    rw [hK, e]
    push_cast
    rfl

theorem heldCellS_o (id off n c : Nat) (k : Nat) (h : AH) (o : Own h id off n 3 (marks fS k (n * 3))) (h0 : 0 < k) (hk : k + n * 3 < 4000000000000) (hn : n < 274877906944) :
    CD Tryd.prog 48 [.slice (some ⟨id, off, none⟩) n c, .int .i64 (k : Nat)] h (.int .i64 ((k + n * 3 : Nat) : Int)) h := by
  refine CD.quiet ?_ (low_int _ _ _)
  refine CC.ofN Tryd.func48 Tryd.ntmps48 Tryd.results48 rfl (by decide) (by kernel_rfl) ?_
  simp (maxSteps := 1000000) -implicitDefEqProofs only [push_cast, seval]
  refine WC.loopA (by kernel_rfl) [1, 5] [4, 6, 7, 8, 9, 10, 11, 12, 13, 14, 15, 16, 17, 18, 19, 20, 21, 22, 23, 24, 25, 26, 27, 28, 29, 30, 31, 32, 33, 34, 35, 36, 37, 38, 39, 40, 41] (fun a : Nat × Nat => [.int .i64 (a.2 : Nat), .int .i64 (a.1 : Nat)]) (fun a h' => (a.1 ≤ n ∧ a.2 = k + a.1 * 3) ∧ Pre h h') (fun a => n - a.1) (0, k) (by kernel_rfl) ⟨⟨Nat.zero_le _, rfl⟩, Pre.refl _⟩ ?_
  intro a g h1 hJ
  have hi := hJ.1.1
  have hK := hJ.1.2
  have hp := hJ.2
  clear hJ
  have o1 := o.pre hp
  have l1 := o1.lt
  simp (maxSteps := 1000000) -implicitDefEqProofs only [push_cast, seval]
  with_reducible refine bcase_d (fun hb => ?_) (fun hb => ?_)
  · have hi' : a.1 < n := by omega
    with_reducible refine nameN (a.2 + 1) (fun K1 hK1 => ?_)
    have w1 : IntKind.i64.wrap ((a.2 : Int) + 1) = (K1 : Nat) := by rw [wrapSucc (by omega), hK1]
    with_reducible refine nameN (K1 + 1) (fun K2 hK2 => ?_)
    have w2 : IntKind.i64.wrap ((K1 : Int) + 1) = (K2 : Nat) := by rw [wrapSucc (by omega), hK2]
    with_reducible refine nameN (K2 + 1) (fun K3 hK3 => ?_)
    have w3 : IntKind.i64.wrap ((K2 : Int) + 1) = (K3 : Nat) := by rw [wrapSucc (by omega), hK3]
    have g0 : rd1 h1 id (off + a.1 * 3) = some (.string (mt a.2)) := by
      have := o1.rd1 (j := a.1 * 3) (by omega)
      rw [show off + a.1 * 3 = off + (a.1 * 3) by omega, this, List.getD_eq_getElem?_getD, marks_get fS k (n * 3) (by omega)]
      rw [show k + (a.1 * 3) = a.2 by omega]; rfl
    have g1 : rd1 h1 id (off + a.1 * 3 + 1) = some (.string (mt K1)) := by
      have := o1.rd1 (j := a.1 * 3 + 1) (by omega)
      rw [show off + a.1 * 3 + 1 = off + (a.1 * 3 + 1) by omega, this, List.getD_eq_getElem?_getD, marks_get fS k (n * 3) (by omega)]
      rw [show k + (a.1 * 3 + 1) = K1 by omega]; rfl
    have g2 : rd1 h1 id (off + a.1 * 3 + 2) = some (.string (mt K2)) := by
      have := o1.rd1 (j := a.1 * 3 + 2) (by omega)
      rw [show off + a.1 * 3 + 2 = off + (a.1 * 3 + 2) by omega, this, List.getD_eq_getElem?_getD, marks_get fS k (n * 3) (by omega)]
      rw [show k + (a.1 * 3 + 2) = K2 by omega]; rfl
    simp (maxSteps := 1000000) -implicitDefEqProofs only [push_cast, seval, l1, w1, w2, w3, g0, g1, g2]
    refine WC.draw' (by kernel_rfl) (by kernel_rfl) (.q 0 (.q 1 (.q 2 (.q 3 (.q 4 (.q 5 (.c 6 (.q 7 (.done))))))))) (by kernel_rfl) ?_
    simp (maxSteps := 1000000) -implicitDefEqProofs only [push_cast, seval, l1, w1, w2, w3, g0, g1, g2]
    refine And.intro (by omega) (And.intro (by omega) ?_)
    simp (maxSteps := 1000000) -implicitDefEqProofs only [push_cast, seval, l1, w1, w2, w3, g0, g1, g2]
    refine CQ.pure (fun h' => markText_c a.2 (by omega) (by omega) h') ?_
    simp (maxSteps := 1000000) -implicitDefEqProofs only [push_cast, seval, l1, w1, w2, w3, g0, g1, g2]
    refine WC.draw' (by kernel_rfl) (by kernel_rfl) (.q 0 (.q 1 (.q 2 (.q 3 (.q 4 (.q 5 (.c 6 (.q 7 (.done))))))))) (by kernel_rfl) ?_
    simp (maxSteps := 1000000) -implicitDefEqProofs only [push_cast, seval, l1, w1, w2, w3, g0, g1, g2]
    refine And.intro (by omega) (And.intro (by omega) ?_)
    simp (maxSteps := 1000000) -implicitDefEqProofs only [push_cast, seval, l1, w1, w2, w3, g0, g1, g2]
    refine CQ.pure (fun h' => markText_c K1 (by omega) (by omega) h') ?_
    simp (maxSteps := 1000000) -implicitDefEqProofs only [push_cast, seval, l1, w1, w2, w3, g0, g1, g2]
    refine WC.draw' (by kernel_rfl) (by kernel_rfl) (.q 0 (.q 1 (.q 2 (.q 3 (.q 4 (.q 5 (.c 6 (.q 7 (.done))))))))) (by kernel_rfl) ?_
    simp (maxSteps := 1000000) -implicitDefEqProofs only [push_cast, seval, l1, w1, w2, w3, g0, g1, g2]
    refine And.intro (by omega) (And.intro (by omega) ?_)
    simp (maxSteps := 1000000) -implicitDefEqProofs only [push_cast, seval, l1, w1, w2, w3, g0, g1, g2]
    refine CQ.pure (fun h' => markText_c K2 (by omega) (by omega) h') ?_
    simp (maxSteps := 1000000) -implicitDefEqProofs only [push_cast, seval, l1, w1, w2, w3, g0, g1, g2]
    rw [wrapSucc (by omega)]
    exact ⟨(a.1 + 1, K3), by kernel_rfl, ⟨⟨by show a.1 + 1 ≤ n; omega, by show K3 = k + (a.1 + 1) * 3; omega⟩, hp⟩, by show n - (a.1 + 1) < n - a.1; omega⟩
  · have e : a.1 = n := by omega
    simp (maxSteps := 1000000) -implicitDefEqProofs only [push_cast, seval]
    refine ⟨by rw [hK, e]; push_cast; rfl, hp.keep⟩
theorem markCellS_n (c k : Nat) (hk : k < 4000000000000) (h : AH) : CD Tryd.prog 46 [.slice none 0 c, .int .i64 (k : Nat)] h (.int .i64 (k : Nat)) h := by
  refine CD.quiet ?_ (low_int _ _ _)
  refine CC.ofN Tryd.func46 Tryd.ntmps46 Tryd.results46 rfl (by decide) (by kernel_rfl) ?_
  simp (maxSteps := 1000000) -implicitDefEqProofs only [push_cast, seval]
  refine WC.loopA (by kernel_rfl) [1, 5] [6, 7, 8, 9, 10, 11, 12, 13, 14, 15, 16, 17, 18, 19, 20, 21, 22, 23, 24, 25, 26, 27, 28, 29, 30, 31, 32, 33, 34, 35] (fun a : Nat => [.int .i64 (k : Nat), .int .i64 (a : Nat)]) (fun a h' => a = 0 ∧ Pre h h') (fun a => 1 - a) 0 (by kernel_rfl) ⟨rfl, Pre.refl _⟩ ?_
  intro a g h1 hJ
  have e := hJ.1
  have hp := hJ.2
  clear hJ
  subst e
  simp (maxSteps := 1000000) -implicitDefEqProofs only [push_cast, seval]
  repeat' (first | with_reducible (first | exact Keep.refl _ _ | assumption | exact byte_lt _ _ | apply Keep.alloc | (refine Keep.set ?_ ?_; rotate_left; · omega) | apply Pre.alloc | apply Pre.set | exact Pre.refl _ | exact le_alloc _ | (refine Pre.keep ?_; assumption) | (refine Pre.n ?_; assumption)) | ((with_reducible (first | refine bcase_d (fun hb => ?_) (fun hb => ?_) | refine bcase_mk (fun hb => ?_) (fun hb => ?_))) <;> try simp (maxSteps := 1000000) -implicitDefEqProofs only [push_cast, seval]) | with_reducible refine And.intro ?_ ?_ | omega | (simp only [alloc_n, set_n, kill_n]; omega) | (exfalso; omega))
theorem heldCellS_n (c k : Nat) (hk : k < 4000000000000) (h : AH) : CD Tryd.prog 48 [.slice none 0 c, .int .i64 (k : Nat)] h (.int .i64 (k : Nat)) h := by
  refine CD.quiet ?_ (low_int _ _ _)
  refine CC.ofN Tryd.func48 Tryd.ntmps48 Tryd.results48 rfl (by decide) (by kernel_rfl) ?_
  simp (maxSteps := 1000000) -implicitDefEqProofs only [push_cast, seval]
  refine WC.loopA (by kernel_rfl) [1, 5] [4, 6, 7, 8, 9, 10, 11, 12, 13, 14, 15, 16, 17, 18, 19, 20, 21, 22, 23, 24, 25, 26, 27, 28, 29, 30, 31, 32, 33, 34, 35, 36, 37, 38, 39, 40, 41] (fun a : Nat => [.int .i64 (k : Nat), .int .i64 (a : Nat)]) (fun a h' => a = 0 ∧ Pre h h') (fun a => 1 - a) 0 (by kernel_rfl) ⟨rfl, Pre.refl _⟩ ?_
  intro a g h1 hJ
  have e := hJ.1
  have hp := hJ.2
  clear hJ
  subst e
  simp (maxSteps := 1000000) -implicitDefEqProofs only [push_cast, seval]
  repeat' (first | with_reducible (first | exact Keep.refl _ _ | assumption | exact byte_lt _ _ | apply Keep.alloc | (refine Keep.set ?_ ?_; rotate_left; · omega) | apply Pre.alloc | apply Pre.set | exact Pre.refl _ | exact le_alloc _ | (refine Pre.keep ?_; assumption) | (refine Pre.n ?_; assumption)) | ((with_reducible (first | refine bcase_d (fun hb => ?_) (fun hb => ?_) | refine bcase_mk (fun hb => ?_) (fun hb => ?_))) <;> try simp (maxSteps := 1000000) -implicitDefEqProofs only [push_cast, seval]) | with_reducible refine And.intro ?_ ?_ | omega | (simp only [alloc_n, set_n, kill_n]; omega) | (exfalso; omega))
theorem markCellS_c (n0 : Nat) (A : Option Addr) (n : Nat) (cs : List Value) (k : Nat) (h : AH) (o : Gr n0 h (.slice A n 3) 3 cs) (hc : cs.length = n * 3) (h0 : 0 < k) (hk : k + n * 3 < 4000000000000) (hn : n < 274877906944) :
    CC Tryd.prog 46 [.slice A n 3, .int .i64 (k : Nat)] h (fun v h' => v = .int .i64 ((k + n * 3 : Nat) : Int) ∧ Gr n0 h' (.slice A n 3) 3 (marks fS k (n * 3)) ∧ WrV h h' (.slice A n 3)) := by
  refine CC.withFit (fun ft => ?_)
  rcases o with ⟨c, e, e2⟩ | ⟨id, off, m, e, hb, ow⟩
  · injection e with e3 e4 e5
    subst e3 e4 e5 e2
    exact (markCellS_n 3 k (by omega) h).to ⟨rfl, .inl ⟨3, rfl, rfl⟩, WrV.refl _ _⟩
  · injection e with e3 e4
    subst e3 e4
    exact (markCellS_o id off n cs k h ow h0 hk hn).mono (fun v h' ⟨a, b, c⟩ => ⟨a, .inr ⟨id, off, n, rfl, hb, b⟩, c.toV ft ow⟩)
theorem heldCellS_c (n0 : Nat) (A : Option Addr) (n : Nat) (k : Nat) (h : AH) (o : Gr n0 h (.slice A n 3) 3 (marks fS k (n * 3))) (h0 : 0 < k) (hk : k + n * 3 < 4000000000000) (hn : n < 274877906944) :
    CD Tryd.prog 48 [.slice A n 3, .int .i64 (k : Nat)] h (.int .i64 ((k + n * 3 : Nat) : Int)) h := by
  rcases o with ⟨c, e, e2⟩ | ⟨id, off, m, e, hb, ow⟩
  · injection e with e3 e4 e5
    subst e3 e4 e5
    exact heldCellS_n 3 k (by omega) h
  · injection e with e3 e4
    subst e3 e4
    exact heldCellS_o id off n 3 k h ow h0 hk hn

end Go.Proofs.YtcggnolnakgkeaaDoor
namespace Go.Proofs.YtcggnolnakgkeaaDoor
open Go Go.Sim Go.Proofs
set_option linter.unusedSimpArgs false
set_option linter.unusedVariables false
set_option maxRecDepth 100000
set_option maxHeartbeats 1000000
/-! ### stores whose slices are a call's own -/
theorem OwnS.keep {h0 h h' : AH} {vA vB : Value} {st : Store} (o : OwnS h0 h vA vB st) (hn : h.n ≤ h'.n) (e : ∀ i, (atBlock vA i ∨ atBlock vB i) → h'.ob i = h.ob i) : OwnS h0 h' vA vB st := by
  obtain ⟨m, a, b, c, d⟩ := o
  exact ⟨m, a, b.keep hn (fun i hi => e i (.inl hi)), c, d.keep hn (fun i hi => e i (.inr hi))⟩
theorem OwnS.pre {h0 h h' : AH} {vA vB : Value} {st : Store} (o : OwnS h0 h vA vB st) (p : Pre h h') : OwnS h0 h' vA vB st := by
  obtain ⟨m, a, b, c, d⟩ := o
  exact ⟨m, a, b.pre p, c, d.pre p⟩
theorem OwnS.range {h0 h : AH} {vA vB : Value} {st : Store} (o : OwnS h0 h vA vB st) {i : Nat} (e : atBlock vA i ∨ atBlock vB i) : h0.n ≤ i ∧ i < h.n := by
  obtain ⟨m, a, b, c, d⟩ := o
  rcases e with e | e
  · have := b.range e; omega
  · have := d.range e; omega
theorem OwnS.live {h0 h : AH} {vA vB : Value} {st : Store} (o : OwnS h0 h vA vB st) {i : Nat} (e : atBlock vA i ∨ atBlock vB i) : live h i := by
  obtain ⟨m, a, b, c, d⟩ := o
  rcases e with e | e
  · exact b.live e
  · exact d.live e
theorem OwnS.rds {h0 h : AH} {vA vB : Value} {st : Store} (o : OwnS h0 h vA vB st) : ∃ A B ca cb, vA = .slice A st.vars.length ca ∧ vB = .slice B st.cells.length cb ∧ RdS h A B st := by
  obtain ⟨m, a, b, c, d⟩ := o
  obtain ⟨A, ca, e1, r1⟩ := b.read (by decide) (fun _ => rfl)
  obtain ⟨B, cb, e2, r2⟩ := d.read (by decide) (fun _ => rfl)
  exact ⟨A, B, ca, cb, e1, e2, r1 h (fun _ _ _ => rfl), r2 h (fun _ _ _ => rfl)⟩
/-- Marked slices. -/
def MkS (h : AH) (vA vB : Value) (nv nc k : Nat) : Prop := ∃ n0 n1, Gr n0 h vA 2 (marks fS k (nv * 2)) ∧ Gr n1 h vB 3 (marks fS (k + nv * 2) (nc * 3))
theorem MkS.keep {h h' : AH} {vA vB : Value} {nv nc k : Nat} (o : MkS h vA vB nv nc k) (hn : h.n ≤ h'.n) (e : ∀ i, (atBlock vA i ∨ atBlock vB i) → h'.ob i = h.ob i) : MkS h' vA vB nv nc k := by
  obtain ⟨n0, n1, a, b⟩ := o
  exact ⟨n0, n1, a.keep hn (fun i hi => e i (.inl hi)), b.keep hn (fun i hi => e i (.inr hi))⟩
theorem MkS.live {h : AH} {vA vB : Value} {nv nc k : Nat} (o : MkS h vA vB nv nc k) {i : Nat} (e : atBlock vA i ∨ atBlock vB i) : Sim.live h i := by
  obtain ⟨n0, n1, a, b⟩ := o
  rcases e with e | e
  · exact a.live e
  · exact b.live e
theorem Gr.slice {n0 : Nat} {h : AH} {v : Value} {k : Nat} {cs : List Value} (w : Gr n0 h v k cs) (hk : 0 < k) {m : Nat} (hm : cs.length = m * k) : (∃ A, v = .slice A m k) ∨ (∃ c, v = .slice none 0 c ∧ m = 0) := by
  rcases w with ⟨c, rfl, rfl⟩ | ⟨id, off, n, rfl, b, o⟩
  · refine .inr ⟨c, rfl, ?_⟩
    rcases Nat.eq_zero_or_pos m with h | h
    · exact h
    · have := Nat.mul_pos h hk
      simp at hm; omega
  · refine .inl ⟨some ⟨id, off, none⟩, ?_⟩
    rw [Nat.eq_of_mul_eq_mul_right hk (o.len.symm.trans hm)]
theorem live.of {h h' : AH} {j : Nat} (l : live h j) (e : h'.ob j = h.ob j) : live h' j := by
  rcases l with ⟨ln, ⟨all, st, e1, hs⟩⟩ | l
  · exact .inl ⟨ln, ⟨all, st, e.trans e1, hs⟩⟩
  · exact .inr (by rw [e]; exact l)
theorem vars_len (st : Store) : ((st.vars.map Var.enc).flatten).length = st.vars.length * 2 := flat_len (k := 2) _ (fun _ => rfl)
theorem cells_len (st : Store) : ((st.cells.map Cell.enc).flatten).length = st.cells.length * 3 := flat_len (k := 3) _ (fun _ => rfl)
theorem markV_any (n0 n k : Nat) (v : Value) (cs : List Value) (h : AH) (o : Gr n0 h v 2 cs) (hc : cs.length = n * 2) (h0 : 0 < k) (hk : k + n * 2 < 4000000000000) (hn : n < 274877906944) :
    CC Tryd.prog 45 [v, .int .i64 (k : Nat)] h (fun r h' => r = .int .i64 ((k + n * 2 : Nat) : Int) ∧ Gr n0 h' v 2 (marks fS k (n * 2)) ∧ WrV h h' v) := by
  rcases Gr.slice o (by decide) hc with ⟨A, rfl⟩ | ⟨c, rfl, rfl⟩
  · exact markVarS_c n0 A n cs k h o hc h0 hk hn
  · exact (markVarS_n c k (by omega) h).to ⟨rfl, .inl ⟨c, rfl, rfl⟩, WrV.refl _ _⟩
theorem markC_any (n0 n k : Nat) (v : Value) (cs : List Value) (h : AH) (o : Gr n0 h v 3 cs) (hc : cs.length = n * 3) (h0 : 0 < k) (hk : k + n * 3 < 4000000000000) (hn : n < 274877906944) :
    CC Tryd.prog 46 [v, .int .i64 (k : Nat)] h (fun r h' => r = .int .i64 ((k + n * 3 : Nat) : Int) ∧ Gr n0 h' v 3 (marks fS k (n * 3)) ∧ WrV h h' v) := by
  rcases Gr.slice o (by decide) hc with ⟨A, rfl⟩ | ⟨c, rfl, rfl⟩
  · exact markCellS_c n0 A n cs k h o hc h0 hk hn
  · exact (markCellS_n c k (by omega) h).to ⟨rfl, .inl ⟨c, rfl, rfl⟩, WrV.refl _ _⟩
theorem heldV_any (n0 n k : Nat) (v : Value) (h : AH) (o : Gr n0 h v 2 (marks fS k (n * 2))) (h0 : 0 < k) (hk : k + n * 2 < 4000000000000) (hn : n < 274877906944) :
    CD Tryd.prog 47 [v, .int .i64 (k : Nat)] h (.int .i64 ((k + n * 2 : Nat) : Int)) h := by
  rcases Gr.slice o (by decide) (marks_length _ _ _) with ⟨A, rfl⟩ | ⟨c, rfl, rfl⟩
  · exact heldVarS_c n0 A n k h o h0 hk hn
  · exact heldVarS_n c k (by omega) h
theorem heldC_any (n0 n k : Nat) (v : Value) (h : AH) (o : Gr n0 h v 3 (marks fS k (n * 3))) (h0 : 0 < k) (hk : k + n * 3 < 4000000000000) (hn : n < 274877906944) :
    CD Tryd.prog 48 [v, .int .i64 (k : Nat)] h (.int .i64 ((k + n * 3 : Nat) : Int)) h := by
  rcases Gr.slice o (by decide) (marks_length _ _ _) with ⟨A, rfl⟩ | ⟨c, rfl, rfl⟩
  · exact heldCellS_c n0 A n k h o h0 hk hn
  · exact heldCellS_n c k (by omega) h
theorem OwnS.one {h0 h : AH} {vA vB : Value} {st : Store} (o : OwnS h0 h vA vB st) : Sim.one vA = true ∧ Sim.one vB = true := by
  obtain ⟨A, B, ca, cb, rfl, rfl, _⟩ := o.rds
  exact ⟨rfl, rfl⟩
theorem MkS.one {h : AH} {vA vB : Value} {nv nc k : Nat} (o : MkS h vA vB nv nc k) : Sim.one vA = true ∧ Sim.one vB = true := by
  obtain ⟨n0, n1, a, b⟩ := o
  constructor
  · rcases a with ⟨c, rfl, _⟩ | ⟨id, off, n, rfl, _, _⟩ <;> rfl
  · rcases b with ⟨c, rfl, _⟩ | ⟨id, off, n, rfl, _, _⟩ <;> rfl
theorem markStore_c (h0 h : AH) (vA vB : Value) (st : Store) (u : ByteArray) (k nv nc : Nat) (o : OwnS h0 h vA vB st) (ev : st.vars.length = nv) (ec : st.cells.length = nc) (k0 : 0 < k) (hk : k < 1000000) (hv : nv < 274877906944) (hc : nc < 274877906944) :
    CC Tryd.prog 16 [.agg #[vA, vB, .string u], .int .i64 (k : Nat)] h (fun r h' => r = .int .i64 ((k + nv * 2 + nc * 3 : Nat) : Int) ∧ MkS h' vA vB nv nc k ∧ h.n ≤ h'.n ∧ ∀ j, j < h.n → ¬ (atBlock vA j ∨ atBlock vB j) → live h j → h'.ob j = h.ob j) := by
  have o1 := o.one
  obtain ⟨m, a, b, c, d⟩ := o
  have q1 := o1.1
  have q2 := o1.2
  have l1 := vars_len st
  have l2 := cells_len st
  rw [ev] at l1
  rw [ec] at l2
  with_reducible refine nameN (k + nv * 2) (fun K1 hK1 => ?_)
  refine CC.ofN Tryd.func16 Tryd.ntmps16 Tryd.results16 rfl (by decide) (by kernel_rfl) ?_
  simp (maxSteps := 1000000) -implicitDefEqProofs only [push_cast, seval, q1, q2]
  with_reducible refine CC.mono (markV_any _ nv k vA _ _ (b.alloc _) l1 k0 (by omega) hv) (fun v h1 hv => ?_)
  have e1 := hv.1
  have g1 := hv.2.1
  have w1 := hv.2.2
  clear hv
  rw [← hK1] at e1
  subst e1
  have ox : h1.ob h.n = AOb.cells [vA, vB, Value.string u] .solo h.n := (w1.ob h.n (fun e => by have := b.range e; omega) (.inl ⟨h.n, ⟨_, _, alloc_same _, .inl rfl⟩⟩)).trans (alloc_same _)
  have lx : h.n < h1.n := by rw [w1.n]; exact lt_alloc _
  have kd : ∀ i, atBlock vB i → h1.ob i = (h.alloc (AOb.cells [vA, vB, Value.string u] .solo h.n)).ob i := fun i hi => w1.ob i (fun e => by have := c i e; have := d.range hi; omega) ((d.alloc _).live hi)
  have d1 : Gr m h1 vB 3 _ := (d.alloc _).keep (by rw [w1.n]; exact Nat.le_refl _) kd
  simp (maxSteps := 1000000) -implicitDefEqProofs only [push_cast, seval, ox, lx, rd_of ox, rd1_of ox]
  with_reducible refine CC.mono (markC_any _ nc K1 vB _ _ d1 l2 (by omega) (by omega) hc) (fun v h2 hv => ?_)
  have e1 := hv.1
  have g2 := hv.2.1
  have w2 := hv.2.2
  clear hv
  subst e1
  simp (maxSteps := 1000000) -implicitDefEqProofs only [push_cast, seval]
  rw [hK1] at g2
  refine ⟨by rw [hK1]; push_cast; rfl, ⟨_, _, g1.keep (by rw [w2.n]; exact Nat.le_refl _) (fun i hi => w2.ob i (fun e => ?_) (g1.live hi)), g2⟩, by rw [w2.n]; omega, fun j hj hb hl => ?_⟩
  · have := g1.range hi
    have := c i hi
    have := d.range e
    omega
  · have e1 : h1.ob j = h.ob j := (w1.ob j (fun e => hb (.inl e)) (live.of hl (alloc_lt _ hj))).trans (alloc_lt _ hj)
    exact (w2.ob j (fun e => hb (.inr e)) (live.of hl e1)).trans e1
theorem heldStore_c (h : AH) (vA vB : Value) (u : ByteArray) (k nv nc : Nat) (o : MkS h vA vB nv nc k) (k0 : 0 < k) (hk : k < 1000000) (hv : nv < 274877906944) (hc : nc < 274877906944) :
    CD Tryd.prog 17 [.agg #[vA, vB, .string u], .int .i64 (k : Nat)] h (.int .i64 ((k + nv * 2 + nc * 3 : Nat) : Int)) h := by
  have o1 := o.one
  obtain ⟨m, m1, a, b⟩ := o
  have q1 := o1.1
  have q2 := o1.2
  refine CD.quiet ?_ (low_int _ _ _)
  with_reducible refine nameN (k + nv * 2) (fun K1 hK1 => ?_)
  have hA := heldV_any _ nv k vA _ (a.alloc (AOb.cells [vA, vB, Value.string u] .solo h.n)) k0 (by omega) hv
  have hB := heldC_any _ nc (k + nv * 2) vB _ (b.alloc (AOb.cells [vA, vB, Value.string u] .solo h.n)) (by omega) (by omega) hc
  rw [← hK1] at hA hB
  with_reducible refine nameN (k + nv * 2 + nc * 3) (fun K2 hK2 => ?_)
  rw [← hK1] at hK2
  rw [← hK2] at hB
  refine CC.ofN Tryd.func17 Tryd.ntmps17 Tryd.results17 rfl (by decide) (by kernel_rfl) ?_
  simp (maxSteps := 1000000) -implicitDefEqProofs only [push_cast, seval, q1, q2]
  repeat' (first | with_reducible (first | exact Keep.refl _ _ | assumption | exact byte_lt _ _ | apply Keep.alloc | (refine Keep.set ?_ ?_; rotate_left; · omega) | apply Pre.alloc | apply Pre.set | exact Pre.refl _ | exact le_alloc _ | (refine Pre.keep ?_; assumption) | (refine Pre.n ?_; assumption)) | ((with_reducible (first | refine CD.to (hA) ?_ | refine CQ.pure (fun _ => hA) ?_ | refine CD.to (hB) ?_ | refine CQ.pure (fun _ => hB) ?_ | refine bcase_d (fun hb => ?_) (fun hb => ?_) | refine bcase_mk (fun hb => ?_) (fun hb => ?_))) <;> try simp (maxSteps := 1000000) -implicitDefEqProofs only [push_cast, seval, q1, q2]) | with_reducible refine And.intro ?_ ?_ | omega | (simp only [alloc_n, set_n, kill_n]; omega) | (exfalso; omega))
  rw [hK2, hK1]
  push_cast
  rfl
theorem iStore_sz (s : ByteArray) (hs : s.size ≤ maxLen) : Sz (iStore s) := by
  obtain ⟨N, hN, hN2⟩ := ctV_nat s 60 (0, false)
  obtain ⟨M, hM, hM2⟩ := ctV_nat s 2000 (iL s).1
  have mx := maxLen_eq
  have e1 : (iL s).2.length = N := by
    rw [iL, itV_len, ctM, show (60 : Int) = ((60 : Nat) : Int) from rfl, hN]; rfl
  have e2 : (iC s).2.length = M := by
    rw [iC, itC_len, ctM, show (2000 : Int) = ((2000 : Nat) : Int) from rfl, hM]; rfl
  refine ⟨fun x hx => ?_, fun x hx => ?_, ?_, ?_, ?_⟩
  · have := itV_size s _ _ x (show x ∈ (iL s).2 from hx); omega
  · have := itC_size s _ _ x (show x ∈ (iC s).2 from hx); omega
  · have := shT_size s (iC s).1; show (shT s (iC s).1).size ≤ maxLen; omega
  · show (iL s).2.length < _; omega
  · show (iC s).2.length < _; omega
theorem iS_sz (s : ByteArray) (hs : s.size ≤ maxLen) : Sz (iS s) := by
  unfold iS
  split
  · exact iStore_sz s hs
  · exact ⟨fun x hx => by simp [store0] at hx, fun x hx => by simp [store0] at hx, by show (0:Nat) ≤ maxLen; omega, by simp [store0], by simp [store0]⟩
theorem eqStore_own (h0 h1 h : AH) (vA vB wA wB : Value) (s t : Store) (oa : OwnS h0 h vA vB s) (ob : OwnS h1 h wA wB t) (zs : Sz s) (zt : Sz t) :
    CD Tryd.prog 15 [.agg #[vA, vB, .string s.out], .agg #[wA, wB, .string t.out]] h (.bool (decide (s = t))) h := by
  obtain ⟨A, B, ca, cb, rfl, rfl, ra⟩ := oa.rds
  obtain ⟨C, D, cc, cd, rfl, rfl, rb⟩ := ob.rds
  exact eqStore_c s t A B C D ca cb cc cd h ra rb zs zt
theorem live_solo {h : AH} {i ln : Nat} {cs : List Value} (e : h.ob i = .cells cs .solo ln) : live h i := .inl ⟨ln, ⟨_, _, e, .inl rfl⟩⟩
end Go.Proofs.YtcggnolnakgkeaaDoor
/- Slices that are read whole. Conditions: those that each theorem names. -/
set_option linter.unusedVariables false
set_option linter.unusedSimpArgs false
namespace Go.Sim
variable {P : Program} {h : AH}
/-- A slice read whole: its elements, k cells each. -/
def RdV {α : Type} (h : AH) (v : Value) (k : Nat) (enc : α → List Value) (l : List α) : Prop :=
  (∃ c, v = .slice none 0 c ∧ l = []) ∨ ∃ id off c, v = .slice (some ⟨id, off, none⟩) l.length c ∧ rd h id off (l.length * k) = some (l.map enc).flatten ∧ id < h.n
theorem RdV.nil {α : Type} (h : AH) (k c : Nat) (enc : α → List Value) : RdV h (.slice none 0 c) k enc [] := .inl ⟨c, rfl, rfl⟩
theorem RdV.keep {α : Type} {v : Value} {k : Nat} {enc : α → List Value} {l : List α} (r : RdV h v k enc l) {h' : AH} (hn : h.n ≤ h'.n) (e : ∀ i, atBlock v i → h'.ob i = h.ob i) : RdV h' v k enc l := by
  rcases r with r | ⟨id, off, c, rfl, r, hl⟩
  · exact .inl r
  · exact .inr ⟨id, off, c, rfl, by rw [← r, rd_eq, rd_eq, e id rfl], Nat.lt_of_lt_of_le hl hn⟩
theorem RdV.lt {α : Type} {v : Value} {k : Nat} {enc : α → List Value} {l : List α} (r : RdV h v k enc l) {i : Nat} (e : atBlock v i) : i < h.n := by
  rcases r with ⟨c, rfl, _⟩ | ⟨id, off, c, rfl, r, hl⟩
  · exact e.elim
  · have : id = i := e
    omega
theorem RdV.pre {α : Type} {v : Value} {k : Nat} {enc : α → List Value} {l : List α} (r : RdV h v k enc l) {h' : AH} (p : Pre h h') : RdV h' v k enc l := r.keep p.n (fun i e => p.ob i (r.lt e))
theorem RdV.one {α : Type} {v : Value} {k : Nat} {enc : α → List Value} {l : List α} (r : RdV h v k enc l) : Sim.one v = true := by
  rcases r with ⟨c, rfl, _⟩ | ⟨id, off, c, rfl, r, hl⟩ <;> rfl
theorem chunk_of {α : Type} {k : Nat} {enc : α → List Value} {id off n : Nat} {l : List α} (hl : ∀ x ∈ l, (enc x).length = k) (r : rd h id off (l.length * k) = some (l.map enc).flatten) {i : Nat} (hi : i < l.length) : rd h id (off + i * k) k = some (enc l[i]) := by
  have hb : i * k + k ≤ l.length * k := by rw [← Nat.succ_mul]; exact Nat.mul_le_mul_right k hi
  rw [rd_eq] at r ⊢
  unfold rdO at r ⊢
  split at r
  · rename_i cs st ln ho
    split at r
    · rename_i hh
      rw [if_pos (by omega)]
      simp only [Option.some.injEq] at r ⊢
      rw [← chunk_at i hi hl, ← r, List.drop_take, List.drop_drop, List.take_take, Nat.min_eq_left (by omega)]
    · cases r
  · cases r
theorem RdV.rde {α : Type} {v : Value} {k : Nat} {enc : α → List Value} {l : List α} (r : RdV h v k enc l) (hl : ∀ x, (enc x).length = k) : ∃ A c, v = .slice A l.length c ∧ RdE h A k enc l := by
  rcases r with ⟨c, rfl, rfl⟩ | ⟨id, off, c, rfl, r, hlt⟩
  · exact ⟨none, c, rfl, RdE.nil _ _ _⟩
  · exact ⟨_, c, rfl, fun i hi => ⟨id, off, rfl, chunk_of (n := 0) (fun x _ => hl x) r hi⟩⟩
theorem Gr.rdv {α : Type} {n0 : Nat} {v : Value} {k : Nat} {enc : α → List Value} {l : List α} (w : Gr n0 h v k (l.map enc).flatten) (hk : 0 < k) (hl : ∀ x, (enc x).length = k) : RdV h v k enc l := by
  rcases w with ⟨c, rfl, e⟩ | ⟨id, off, n, rfl, b, o⟩
  · have hf := flat_len (enc := enc) l hl
    rw [e] at hf
    have : l = [] := by
      cases l with
      | nil => rfl
      | cons x r => rw [List.length_nil, List.length_cons, Nat.succ_mul] at hf; omega
    exact .inl ⟨c, rfl, this⟩
  · have hf := flat_len (enc := enc) l hl
    have hn : n = l.length := Nat.eq_of_mul_eq_mul_right hk (o.len.symm.trans hf)
    subst hn
    exact .inr ⟨id, off, k, rfl, o.rdAll, o.lt⟩
theorem RdV.asrc {α : Type} {v : Value} {k : Nat} {enc : α → List Value} {l : List α} (r : RdV h v k enc l) : Sim.asrc h k v = some (l.length, (l.map enc).flatten) := by
  rcases r with ⟨c, rfl, rfl⟩ | ⟨id, off, c, rfl, r, hlt⟩
  · rfl
  · unfold Sim.asrc; simp [r]
theorem Own.zero {o : AOb} (e : o = .cells [] .solo h.n) (k : Nat) : Own (h.alloc o) h.n 0 0 k [] := by subst e; exact Own.new [] 0 k (by simp)
end Go.Sim
namespace Go.Sim
variable {P : Program} {h : AH}
/-- A copy: an append to an empty slice, laid before. -/
theorem app_copy {α : Type} {t u e : TypeId} {s b : Nat} {z : List Value} {ag : Bool} {id : Nat} {enc : α → List Value} {l : List α} {x : Value} {K : Value → AH → Prop}
    (hs : si P t = some (e, ⟨s, b, z, ag⟩)) (hpos : 0 < s) (hby : b ≤ 256) (hu : notInt (P.underlying u)) (w : h.ob id = .cells [] .solo id) (hid : id < h.n) (hx : RdV h x s enc l) (hl : ∀ x, (enc x).length = s) (hb : l.length < 274877906944)
    (hk : ∀ h', Own h' h.n 0 l.length s (l.map enc).flatten → h'.n = h.n + 1 → (∀ i, i < h.n → i ≠ id → h'.ob i = h.ob i) → K (.slice (some ⟨h.n, 0, none⟩) l.length s) h') :
    aappend P h t u (.slice (some ⟨id, 0, none⟩) 0 s) x K := by
  refine app_own (cs := []) hs hpos hby hu ⟨hid, by simp, [], .solo, id, w, .inl rfl, by simp, by simp⟩ hx.asrc (flat_len l hl) (by omega) (fun h' o hn he => ?_)
  rw [Nat.zero_add] at o ⊢
  rw [List.nil_append] at o
  exact hk h' o hn he
end Go.Sim
namespace Go.Sim
theorem zl1 (a : Value) : zerosL 1 [a] = [a] := rfl
theorem zl4 (a b c d : Value) : zerosL 4 [a, b, c, d] = [a, b, c, d] := rfl
theorem zl5 (a b c d e : Value) : zerosL 5 [a, b, c, d, e] = [a, b, c, d, e] := rfl
attribute [push_cast] zl1 zl2 zl3 zl4 zl5
end Go.Sim
/- Stores that are set. Conditions: those that each theorem names. -/
set_option linter.unusedSimpArgs false
set_option linter.unusedVariables false
namespace Go.Sim
def cutB (s : ByteArray) : ByteArray := if (s.size : Int) > 40 then s.extract 0 40 else s
theorem cutB_size (s : ByteArray) : (cutB s).size ≤ 40 := by
  unfold cutB
  split
  · rw [ByteArray.size_extract]; omega
  · omega
def outB (s : ByteArray) : ByteArray := if (s.size : Int) > 3000 then s.extract 0 3000 else s
theorem outB_size (s : ByteArray) : (outB s).size ≤ 3000 := by
  unfold outB
  split
  · rw [ByteArray.size_extract]; omega
  · omega
theorem bl_tri : ∀ a b : List UInt8, (!(Op.bytesLess a b || decide (a = b))) = Op.bytesLess b a
  | [], [] => by simp [Op.bytesLess]
  | [], _ :: _ => by simp [Op.bytesLess]
  | _ :: _, [] => by simp [Op.bytesLess]
  | x :: a, y :: b => by
    have ih := bl_tri a b
    simp only [Op.bytesLess]
    by_cases h1 : x < y
    · have h2 : ¬ y < x := fun h => UInt8.lt_irrefl _ (UInt8.lt_trans h1 h)
      have hne : ¬ y = x := fun e => by subst e; exact UInt8.lt_irrefl _ h1
      simp [h1, h2, hne]
    · by_cases h2 : y < x
      · have hne : ¬ x = y := fun e => by subst e; exact h1 h2
        simp [h1, h2, hne]
      · have e : x = y := UInt8.le_antisymm (UInt8.not_lt.1 h2) (UInt8.not_lt.1 h1)
        subst e
        simp [UInt8.lt_irrefl, ← ih]
theorem gtB (a b : ByteArray) : (!(Op.bytesLess a.toList b.toList || decide (a = b))) = ltB b a := by
  unfold ltB
  rw [← bl_tri a.toList b.toList]
  have : decide (a = b) = decide (a.toList = b.toList) := by
    apply decide_eq_decide.2
    constructor
    · intro e; rw [e]
    · intro e
      rw [ByteArray.toList_eq, ByteArray.toList_eq] at e
      exact ByteArray.ext (Array.toList_inj.1 e)
  rw [this]
def vLt (n : ByteArray) (x : Var) : Bool := ltB x.name n
def vGt (n : ByteArray) (x : Var) : Bool := ltB n x.name
def newV (l : List Var) (n v : ByteArray) : List Var := l.filter (vLt n) ++ [⟨n, cutB v⟩] ++ l.filter (vGt n)
def setV (s : Store) (n v : ByteArray) : Store := if (newV s.vars n v).length ≤ 60 then ⟨newV s.vars n v, s.cells, s.out⟩ else s
def cLt (y x : Cell) : Bool := decide (cellCmp x y < 0)
def cGt (y x : Cell) : Bool := decide (cellCmp y x < 0)
def mkC (n k v : ByteArray) : Cell := ⟨n, cutB k, cutB v⟩
def newC (l : List Cell) (y : Cell) : List Cell := l.filter (cLt y) ++ [y] ++ l.filter (cGt y)
def setC (s : Store) (n k v : ByteArray) : Store := if (newC s.cells (mkC n k v)).length ≤ 2000 then ⟨s.vars, newC s.cells (mkC n k v), s.out⟩ else s
def sayS (s : Store) (line : ByteArray) : Store := ⟨s.vars, s.cells, outB (s.out ++ line ++ ⟨#[10]⟩)⟩
theorem filter_next {α : Type} (p : α → Bool) {l : List α} {i : Nat} (hi : i < l.length) : (l.take (i + 1)).filter p = (l.take i).filter p ++ (if p l[i] = true then [l[i]] else []) := by
  rw [List.take_add_one, List.getElem?_eq_getElem hi, List.filter_append]
  cases h : p l[i] <;> simp [List.filter, h]
theorem filter_len {α : Type} (p : α → Bool) (l : List α) (i : Nat) : ((l.take i).filter p).length ≤ i := Nat.le_trans (List.length_filter_le _ _) (by simp; omega)
theorem filter_len2 {α : Type} (p : α → Bool) (l : List α) : (l.filter p).length ≤ l.length := List.length_filter_le _ _
/-- A store that is small enough. -/
structure SzB (s : Store) : Prop where
  vars : ∀ x ∈ s.vars, x.name.size ≤ 2000000 ∧ x.val.size ≤ 2000000
  cells : ∀ x ∈ s.cells, x.name.size ≤ 2000000 ∧ x.key.size ≤ 2000000 ∧ x.val.size ≤ 2000000
  out : s.out.size ≤ 2000000
  nv : s.vars.length ≤ 2000000
  nc : s.cells.length ≤ 2000000
theorem SzB.sz {s : Store} (z : SzB s) : Sz s := by
  have m : (2000000 : Nat) ≤ maxLen := by decide
  exact ⟨fun x hx => by have := z.vars x hx; omega, fun x hx => by have := z.cells x hx; omega, by have := z.out; omega, by have := z.nv; omega, by have := z.nc; omega⟩
theorem SzB.setV {s : Store} (z : SzB s) {n v : ByteArray} (hn : n.size ≤ 2000000) : SzB (setV s n v) := by
  unfold Sim.setV
  split
  · rename_i h
    refine ⟨fun x hx => ?_, z.cells, z.out, by show (newV s.vars n v).length ≤ _; omega, z.nc⟩
    simp only [newV, List.mem_append, List.mem_filter, List.mem_singleton] at hx
    rcases hx with (hx | rfl) | hx
    · exact z.vars x hx.1
    · exact ⟨hn, by have := cutB_size v; show (cutB v).size ≤ _; omega⟩
    · exact z.vars x hx.1
  · exact z
theorem SzB.setC {s : Store} (z : SzB s) {n k v : ByteArray} (hn : n.size ≤ 2000000) : SzB (setC s n k v) := by
  unfold Sim.setC
  split
  · rename_i h
    refine ⟨z.vars, fun x hx => ?_, z.out, z.nv, by show (newC s.cells (mkC n k v)).length ≤ _; omega⟩
    simp only [newC, List.mem_append, List.mem_filter, List.mem_singleton] at hx
    rcases hx with (hx | rfl) | hx
    · exact z.cells x hx.1
    · exact ⟨hn, by have := cutB_size k; show (cutB k).size ≤ _; omega, by have := cutB_size v; show (cutB v).size ≤ _; omega⟩
    · exact z.cells x hx.1
  · exact z
theorem SzB.say {s : Store} (z : SzB s) (line : ByteArray) : SzB (sayS s line) :=
  ⟨z.vars, z.cells, by have := outB_size (s.out ++ line ++ ⟨#[10]⟩); show (outB _).size ≤ _; omega, z.nv, z.nc⟩
theorem SzB.zero : SzB ⟨[], [], ⟨#[]⟩⟩ := ⟨by simp, by simp, by show (0 : Nat) ≤ _; omega, by simp, by simp⟩
end Go.Sim
namespace Go.Proofs.YtcggnolnakgkeaaDoor
open Go Go.Sim Go.Proofs
set_option linter.unusedSimpArgs false
set_option linter.unusedVariables false
set_option maxRecDepth 100000
set_option maxHeartbeats 1000000
/-- A store's slices, read whole. -/
structure RdT (h : AH) (vA vB : Value) (s : Store) : Prop where
  vars : RdV h vA 2 Var.enc s.vars
  cells : RdV h vB 3 Cell.enc s.cells
theorem RdT.pre {h h' : AH} {vA vB : Value} {s : Store} (r : RdT h vA vB s) (p : Pre h h') : RdT h' vA vB s := ⟨r.vars.pre p, r.cells.pre p⟩
/-- A store whose two slices are a call's own, apart. -/
structure OwnT (h0 h : AH) (vA vB : Value) (st : Store) : Prop where
  a : Gr h0.n h vA 2 (st.vars.map Var.enc).flatten
  b : Gr h0.n h vB 3 (st.cells.map Cell.enc).flatten
  ne : ∀ i, atBlock vA i → ¬ atBlock vB i
theorem OwnS.t {h0 h : AH} {vA vB : Value} {st : Store} (o : OwnS h0 h vA vB st) : OwnT h0 h vA vB st := by
  obtain ⟨m, a, b, c, d⟩ := o
  exact ⟨b, d.mono a, fun i h1 h2 => by have := c i h1; have := d.range h2; omega⟩
theorem OwnT.keep {h0 h h' : AH} {vA vB : Value} {st : Store} (o : OwnT h0 h vA vB st) (hn : h.n ≤ h'.n) (e : ∀ i, (atBlock vA i ∨ atBlock vB i) → h'.ob i = h.ob i) : OwnT h0 h' vA vB st :=
  ⟨o.a.keep hn (fun i hi => e i (.inl hi)), o.b.keep hn (fun i hi => e i (.inr hi)), o.ne⟩
theorem OwnT.pre {h0 h h' : AH} {vA vB : Value} {st : Store} (o : OwnT h0 h vA vB st) (p : Pre h h') : OwnT h0 h' vA vB st := ⟨o.a.pre p, o.b.pre p, o.ne⟩
theorem OwnT.range {h0 h : AH} {vA vB : Value} {st : Store} (o : OwnT h0 h vA vB st) {i : Nat} (e : atBlock vA i ∨ atBlock vB i) : h0.n ≤ i ∧ i < h.n := by
  rcases e with e | e
  · exact o.a.range e
  · exact o.b.range e
theorem OwnT.live {h0 h : AH} {vA vB : Value} {st : Store} (o : OwnT h0 h vA vB st) {i : Nat} (e : atBlock vA i ∨ atBlock vB i) : Sim.live h i := by
  rcases e with e | e
  · exact o.a.live e
  · exact o.b.live e
theorem OwnT.rdt {h0 h : AH} {vA vB : Value} {st : Store} (o : OwnT h0 h vA vB st) : RdT h vA vB st := ⟨o.a.rdv (by decide) (fun _ => rfl), o.b.rdv (by decide) (fun _ => rfl)⟩
theorem OwnT.one {h0 h : AH} {vA vB : Value} {st : Store} (o : OwnT h0 h vA vB st) : Sim.one vA = true ∧ Sim.one vB = true := ⟨o.rdt.vars.one, o.rdt.cells.one⟩
theorem OwnT.mono {h0 h0' h : AH} {vA vB : Value} {st : Store} (o : OwnT h0' h vA vB st) (hn : h0.n ≤ h0'.n) : OwnT h0 h vA vB st := ⟨o.a.mono hn, o.b.mono hn, o.ne⟩
theorem OwnT.to {h0 h H : AH} {vA vB : Value} {st : Store} (o : OwnT h0 h vA vB st) (hn : h.n ≤ H.n) (e : ∀ i, (atBlock vA i ∨ atBlock vB i) → H.ob i = h.ob i) : OwnT h0 H vA vB st := o.keep hn e
theorem OwnT.alloc {h0 h : AH} {vA vB : Value} {st : Store} (o : OwnT h0 h vA vB st) (x : AOb) : OwnT h0 (h.alloc x) vA vB st := o.pre ((Pre.refl h).alloc x)
theorem OwnT.say {h0 h : AH} {vA vB : Value} {st : Store} (o : OwnT h0 h vA vB st) (line : ByteArray) : OwnT h0 h vA vB (sayS st line) := ⟨o.a, o.b, o.ne⟩
theorem RdT.rds {h : AH} {vA vB : Value} {s : Store} (r : RdT h vA vB s) : ∃ A B ca cb, vA = .slice A s.vars.length ca ∧ vB = .slice B s.cells.length cb ∧ RdS h A B s := by
  obtain ⟨A, ca, e1, r1⟩ := r.vars.rde (fun _ => rfl)
  obtain ⟨B, cb, e2, r2⟩ := r.cells.rde (fun _ => rfl)
  exact ⟨A, B, ca, cb, e1, e2, r1, r2⟩
theorem l08Copy_c (s : Store) (vA vB : Value) (h : AH) (r : RdT h vA vB s) (zs : Sz s) :
    CC Tryd.prog 29 [.agg #[vA, vB, .string s.out]] h (fun v h' => ∃ rA rB, v = .agg #[rA, rB, .string s.out] ∧ OwnT h h' rA rB s ∧ Pre h h') := by
  have y1 := r.vars.one
  have y2 := r.cells.one
  refine CC.ofN Tryd.func29 Tryd.ntmps29 Tryd.results29 rfl (by decide) (by kernel_rfl) ?_
  simp (maxSteps := 1000000) -implicitDefEqProofs only [push_cast, seval, y1, y2]
  refine WC.draw' (by kernel_rfl) (by kernel_rfl) (.q 1 (.q 2 (.q 5 (.q 6 (.q 8 (.q 9 (.b 0 (.b 3 (.a 4 false (.a 7 false (.q 10 (.a 11 true (.done))))) 4 (.a 3 false (.a 7 false (.q 10 (.a 11 true (.done)))))) 4 (.a 0 false (.a 3 false (.a 7 false (.q 10 (.a 11 true (.done))))))))))))) (by kernel_rfl) ?_
  simp (maxSteps := 1000000) -implicitDefEqProofs only [push_cast, seval, y1, y2]
  have nv := zs.nv
  have nc := zs.nc
  refine And.intro (And.intro ?_ ?_) ?_
  · refine app_copy si24 (by decide) (by decide) (notInt_sl und24) (by (try simp (maxSteps := 1000000) -implicitDefEqProofs only [push_cast, seval, rdOb]); try rfl) (by simp only [alloc_n]; omega) (r.vars.pre ((((Pre.refl h).alloc _).alloc _).alloc _)) (fun _ => rfl) nv (fun h1 a1 n1 f1 => ?_)
    simp only [alloc_n, Nat.add_assoc, Nat.reduceAdd] at a1 n1 f1
    have f0 : h1.ob h.n = AOb.cells [vA, vB, Value.string s.out] .solo h.n := (f1 h.n (by omega) (by omega)).trans (by (try simp (maxSteps := 1000000) -implicitDefEqProofs only [push_cast, seval, rdOb]); try rfl)
    have l0 : h.n < h1.n := by omega
    simp (maxSteps := 1000000) -implicitDefEqProofs only [push_cast, seval, f0, l0, n1]
    refine app_copy si25 (by decide) (by decide) (notInt_sl und25) (alloc_eq _ (by omega)) (by simp only [alloc_n]; omega) (r.cells.keep (by simp only [alloc_n]; omega) (fun i hi => ?_)) (fun _ => rfl) nc (fun h2 a2 n2 f2 => ?_)
    · have := r.cells.lt hi
      rw [alloc_lt _ (by omega), f1 i (by omega) (by omega)]
      simp (maxSteps := 1000000) -implicitDefEqProofs only [push_cast, seval, this]
    simp only [alloc_n, n1, Nat.add_assoc, Nat.reduceAdd] at a2 n2 f2
    have g0 : h2.ob h.n = AOb.cells [vA, vB, Value.string s.out] .solo h.n := (f2 h.n (by omega) (by omega)).trans ((alloc_lt _ (by omega)).trans f0)
    have g1 : h2.ob (h.n + 1) = AOb.cells [.slice none 0 0, .slice none 0 0, .string ⟨#[]⟩] .solo (h.n + 1) := (f2 _ (by omega) (by omega)).trans ((alloc_lt _ (by omega)).trans ((f1 _ (by omega) (by omega)).trans (by (try simp (maxSteps := 1000000) -implicitDefEqProofs only [push_cast, seval, rdOb]); try rfl)))
    have e2 : h2.ob (h.n + 3) = h1.ob (h.n + 3) := (f2 _ (by omega) (by omega)).trans (alloc_lt _ (by omega))
    have ee : ∀ i, i < h.n → h2.ob i = h.ob i := fun i hi => (f2 i (by omega) (by omega)).trans ((alloc_lt _ (by omega)).trans ((f1 i (by omega) (by omega)).trans (by simp (maxSteps := 1000000) -implicitDefEqProofs only [push_cast, seval, hi])))
    have k1 : h.n + 1 < h2.n := by omega
    simp (maxSteps := 1000000) -implicitDefEqProofs only [push_cast, seval, g0, g1, k1, f0, l0, n1, n2]
    refine ⟨_, _, rfl, ⟨.inr ⟨_, _, _, rfl, by omega, (a1.same e2 (by omega)).same (set_ne _ (by omega)) (Nat.le_refl _)⟩, .inr ⟨_, _, _, rfl, by omega, a2.same (set_ne _ (by omega)) (Nat.le_refl _)⟩, fun i e e' => ?_⟩, ⟨by show h.n ≤ h2.n; omega, fun i hi => (set_ne _ (by omega)).trans (ee i hi)⟩⟩
    simp only [atBlock] at e e'
    omega
  · refine app_copy si24 (by decide) (by decide) (notInt_sl und24) (by (try simp (maxSteps := 1000000) -implicitDefEqProofs only [push_cast, seval, rdOb]); try rfl) (by simp only [alloc_n]; omega) (r.vars.pre (((((Pre.refl h).alloc _).alloc _).alloc _).alloc _)) (fun _ => rfl) nv (fun h1 a1 n1 f1 => ?_)
    simp only [alloc_n, Nat.add_assoc, Nat.reduceAdd] at a1 n1 f1
    have f0 : h1.ob h.n = AOb.cells [vA, vB, Value.string s.out] .solo h.n := (f1 h.n (by omega) (by omega)).trans (by (try simp (maxSteps := 1000000) -implicitDefEqProofs only [push_cast, seval, rdOb]); try rfl)
    have l0 : h.n < h1.n := by omega
    simp (maxSteps := 1000000) -implicitDefEqProofs only [push_cast, seval, f0, l0, n1]
    refine app_copy si25 (by decide) (by decide) (notInt_sl und25) ((f1 _ (by omega) (by omega)).trans (by (try simp (maxSteps := 1000000) -implicitDefEqProofs only [push_cast, seval, rdOb]); try rfl)) (by omega) (r.cells.keep (by omega) (fun i hi => ?_)) (fun _ => rfl) nc (fun h2 a2 n2 f2 => ?_)
    · have := r.cells.lt hi
      rw [f1 i (by omega) (by omega)]
      simp (maxSteps := 1000000) -implicitDefEqProofs only [push_cast, seval, this]
    simp only [n1, Nat.add_assoc, Nat.reduceAdd] at a2 n2 f2
    have g0 : h2.ob h.n = AOb.cells [vA, vB, Value.string s.out] .solo h.n := (f2 h.n (by omega) (by omega)).trans f0
    have g1 : h2.ob (h.n + 1) = AOb.cells [.slice none 0 0, .slice none 0 0, .string ⟨#[]⟩] .solo (h.n + 1) := (f2 _ (by omega) (by omega)).trans ((f1 _ (by omega) (by omega)).trans (by (try simp (maxSteps := 1000000) -implicitDefEqProofs only [push_cast, seval, rdOb]); try rfl))
    have e2 : h2.ob (h.n + 4) = h1.ob (h.n + 4) := f2 _ (by omega) (by omega)
    have ee : ∀ i, i < h.n → h2.ob i = h.ob i := fun i hi => (f2 i (by omega) (by omega)).trans ((f1 i (by omega) (by omega)).trans (by simp (maxSteps := 1000000) -implicitDefEqProofs only [push_cast, seval, hi]))
    have k1 : h.n + 1 < h2.n := by omega
    simp (maxSteps := 1000000) -implicitDefEqProofs only [push_cast, seval, g0, g1, k1, f0, l0, n1, n2]
    refine ⟨_, _, rfl, ⟨.inr ⟨_, _, _, rfl, by omega, (a1.same e2 (by omega)).same (set_ne _ (by omega)) (Nat.le_refl _)⟩, .inr ⟨_, _, _, rfl, by omega, a2.same (set_ne _ (by omega)) (Nat.le_refl _)⟩, fun i e e' => ?_⟩, ⟨by show h.n ≤ h2.n; omega, fun i hi => (set_ne _ (by omega)).trans (ee i hi)⟩⟩
    simp only [atBlock] at e e'
    omega
  · refine app_copy si24 (by decide) (by decide) (notInt_sl und24) (by (try simp (maxSteps := 1000000) -implicitDefEqProofs only [push_cast, seval, rdOb]); try rfl) (by simp only [alloc_n]; omega) (r.vars.pre (((((Pre.refl h).alloc _).alloc _).alloc _).alloc _)) (fun _ => rfl) nv (fun h1 a1 n1 f1 => ?_)
    simp only [alloc_n, Nat.add_assoc, Nat.reduceAdd] at a1 n1 f1
    have f0 : h1.ob h.n = AOb.cells [vA, vB, Value.string s.out] .solo h.n := (f1 h.n (by omega) (by omega)).trans (by (try simp (maxSteps := 1000000) -implicitDefEqProofs only [push_cast, seval, rdOb]); try rfl)
    have l0 : h.n < h1.n := by omega
    simp (maxSteps := 1000000) -implicitDefEqProofs only [push_cast, seval, f0, l0, n1]
    refine app_copy si25 (by decide) (by decide) (notInt_sl und25) ((f1 _ (by omega) (by omega)).trans (by (try simp (maxSteps := 1000000) -implicitDefEqProofs only [push_cast, seval, rdOb]); try rfl)) (by omega) (r.cells.keep (by omega) (fun i hi => ?_)) (fun _ => rfl) nc (fun h2 a2 n2 f2 => ?_)
    · have := r.cells.lt hi
      rw [f1 i (by omega) (by omega)]
      simp (maxSteps := 1000000) -implicitDefEqProofs only [push_cast, seval, this]
    simp only [n1, Nat.add_assoc, Nat.reduceAdd] at a2 n2 f2
    have g0 : h2.ob h.n = AOb.cells [vA, vB, Value.string s.out] .solo h.n := (f2 h.n (by omega) (by omega)).trans f0
    have g1 : h2.ob (h.n + 1) = AOb.cells [.slice none 0 0, .slice none 0 0, .string ⟨#[]⟩] .solo (h.n + 1) := (f2 _ (by omega) (by omega)).trans ((f1 _ (by omega) (by omega)).trans (by (try simp (maxSteps := 1000000) -implicitDefEqProofs only [push_cast, seval, rdOb]); try rfl))
    have e2 : h2.ob (h.n + 4) = h1.ob (h.n + 4) := f2 _ (by omega) (by omega)
    have ee : ∀ i, i < h.n → h2.ob i = h.ob i := fun i hi => (f2 i (by omega) (by omega)).trans ((f1 i (by omega) (by omega)).trans (by simp (maxSteps := 1000000) -implicitDefEqProofs only [push_cast, seval, hi]))
    have k1 : h.n + 1 < h2.n := by omega
    simp (maxSteps := 1000000) -implicitDefEqProofs only [push_cast, seval, g0, g1, k1, f0, l0, n1, n2]
    refine ⟨_, _, rfl, ⟨.inr ⟨_, _, _, rfl, by omega, (a1.same e2 (by omega)).same (set_ne _ (by omega)) (Nat.le_refl _)⟩, .inr ⟨_, _, _, rfl, by omega, a2.same (set_ne _ (by omega)) (Nat.le_refl _)⟩, fun i e e' => ?_⟩, ⟨by show h.n ≤ h2.n; omega, fun i hi => (set_ne _ (by omega)).trans (ee i hi)⟩⟩
    simp only [atBlock] at e e'
    omega
end Go.Proofs.YtcggnolnakgkeaaDoor
namespace Go.Proofs.YtcggnolnakgkeaaDoor
open Go Go.Sim Go.Proofs
set_option linter.unusedSimpArgs false
set_option linter.unusedVariables false
set_option maxRecDepth 100000
set_option maxHeartbeats 1000000
theorem Cut_s (s : ByteArray) (hs : s.size ≤ maxLen) (h : AH) : CD Tryd.prog 63 [.string s] h (.string (cutB s)) h := by
  refine CD.quiet ?_ (low_string _ _)
  have hm := maxLen_eq
  refine CC.ofN Tryd.func63 Tryd.ntmps63 Tryd.results63 rfl (by decide) (by kernel_rfl) ?_
  simp (maxSteps := 1000000) -implicitDefEqProofs only [push_cast, seval]
  repeat' (first | with_reducible (first | exact Keep.refl _ _ | assumption | exact byte_lt _ _ | apply Keep.alloc | (refine Keep.set ?_ ?_; rotate_left; · omega) | apply Pre.alloc | apply Pre.set | exact Pre.refl _ | exact le_alloc _ | (refine Pre.keep ?_; assumption) | (refine Pre.n ?_; assumption)) | ((with_reducible (first | refine bcase_d (fun hb => ?_) (fun hb => ?_) | refine bcase_mk (fun hb => ?_) (fun hb => ?_))) <;> try simp (maxSteps := 1000000) -implicitDefEqProofs only [push_cast, seval]) | with_reducible refine And.intro ?_ ?_ | omega | (simp only [alloc_n, set_n, kill_n]; omega) | (exfalso; omega))
  all_goals simp [cutB, hb]
theorem l08Out_s (s : ByteArray) (hs : s.size ≤ maxLen) (h : AH) : CD Tryd.prog 36 [.string s] h (.string (outB s)) h := by
  refine CD.quiet ?_ (low_string _ _)
  have hm := maxLen_eq
  refine CC.ofN Tryd.func36 Tryd.ntmps36 Tryd.results36 rfl (by decide) (by kernel_rfl) ?_
  simp (maxSteps := 1000000) -implicitDefEqProofs only [push_cast, seval]
  repeat' (first | with_reducible (first | exact Keep.refl _ _ | assumption | exact byte_lt _ _ | apply Keep.alloc | (refine Keep.set ?_ ?_; rotate_left; · omega) | apply Pre.alloc | apply Pre.set | exact Pre.refl _ | exact le_alloc _ | (refine Pre.keep ?_; assumption) | (refine Pre.n ?_; assumption)) | ((with_reducible (first | refine bcase_d (fun hb => ?_) (fun hb => ?_) | refine bcase_mk (fun hb => ?_) (fun hb => ?_))) <;> try simp (maxSteps := 1000000) -implicitDefEqProofs only [push_cast, seval]) | with_reducible refine And.intro ?_ ?_ | omega | (simp only [alloc_n, set_n, kill_n]; omega) | (exfalso; omega))
  all_goals simp [outB, hb]
theorem Say_s (s : Store) (line : ByteArray) (vA vB : Value) (h : AH) (r : RdT h vA vB s) (zs : SzB s) (hl : line.size ≤ 4000000) :
    CC Tryd.prog 53 [.agg #[vA, vB, .string s.out], .string line] h (fun v h' => ∃ rA rB, v = .agg #[rA, rB, .string (sayS s line).out] ∧ OwnT h h' rA rB (sayS s line) ∧ Pre h h') := by
  have y1 := r.vars.one
  have y2 := r.cells.one
  have zo := zs.out
  have hm := maxLen_eq
  refine CC.ofN Tryd.func53 Tryd.ntmps53 Tryd.results53 rfl (by decide) (by kernel_rfl) ?_
  simp (maxSteps := 1000000) -implicitDefEqProofs only [push_cast, seval, y1, y2]
  have p0 := ((Pre.refl h).alloc (AOb.cells [vA, vB, Value.string s.out] .solo h.n)).alloc (AOb.cells [.slice none 0 0, .slice none 0 0, .string ⟨#[]⟩] .solo (h.n + 1))
  with_reducible refine CC.mono (l08Copy_c s vA vB _ (r.pre p0) zs.sz) (fun v h1 hv => ?_)
  with_reducible refine Exists.elim hv (fun rA hv => ?_)
  with_reducible refine Exists.elim hv (fun rB hv => ?_)
  have e1 := hv.1
  have o1 := hv.2.1
  have p1 := hv.2.2
  clear hv
  subst e1
  have y3 := o1.one.1
  have y4 := o1.one.2
  have n1 : h.n + 2 ≤ h1.n := p1.n
  have g0 : h1.ob h.n = AOb.cells [vA, vB, Value.string s.out] .solo h.n := (p1.ob _ (by show h.n < h.n + 2; omega)).trans (by (try simp (maxSteps := 1000000) -implicitDefEqProofs only [push_cast, seval, rdOb]); try rfl)
  have g1 : h1.ob (h.n + 1) = AOb.cells [.slice none 0 0, .slice none 0 0, .string ⟨#[]⟩] .solo (h.n + 1) := (p1.ob _ (by show h.n + 1 < h.n + 2; omega)).trans (by (try simp (maxSteps := 1000000) -implicitDefEqProofs only [push_cast, seval, rdOb]); try rfl)
  have l0 : h.n < h1.n := by omega
  have l1 : h.n + 1 < h1.n := by omega
  have z1 : (ByteArray.mk #[10]).size = 1 := rfl
  have hz : (s.out ++ line ++ ⟨#[10]⟩).size ≤ maxLen := by rw [ByteArray.size_append, ByteArray.size_append, z1]; omega
  simp (maxSteps := 1000000) -implicitDefEqProofs only [push_cast, seval, g0, rd_of g0, rd1_of g0, g1, rd_of g1, rd1_of g1, l0, l1, y3, y4]
  refine And.intro (by omega) (And.intro (by rw [ByteArray.size_append, z1]; omega) ?_)
  with_reducible refine CD.to (l08Out_s _ hz _) ?_
  simp (maxSteps := 1000000) -implicitDefEqProofs only [push_cast, seval, g0, rd_of g0, rd1_of g0, g1, rd_of g1, rd1_of g1, l0, l1, y3, y4]
  refine ⟨rA, rB, rfl, ((o1.mono (by show h.n ≤ h.n + 2; omega)).to (by show h1.n ≤ h1.n + 1; omega) (fun i e => ?_)).say line, ?_⟩
  · have e : h.n + 2 ≤ i ∧ i < h1.n := o1.range e
    rw [set_ne _ (by omega), set_ne _ (by omega), alloc_lt _ (by omega)]
  exact (((p0.trans p1).alloc _).set (by omega) _).set (by omega) _
theorem SetVar_s (s : Store) (name val : ByteArray) (vA vB : Value) (h : AH) (r : RdT h vA vB s) (zs : SzB s) (hn : name.size ≤ 2000000) (hvl : val.size ≤ maxLen) :
    CC Tryd.prog 30 [.agg #[vA, vB, .string s.out], .string name, .string val] h (fun v h' => ∃ rA rB, v = .agg #[rA, rB, .string (setV s name val).out] ∧ OwnT h h' rA rB (setV s name val) ∧ Pre h h') := by
  have y1 := r.vars.one
  have y2 := r.cells.one
  have znv := zs.nv
  have hm := maxLen_eq
  obtain ⟨A, ca, rfl, hR⟩ := r.vars.rde (fun _ => rfl)
  refine CC.withBig (fun big => ?_)
  refine CC.ofN Tryd.func30 Tryd.ntmps30 Tryd.results30 rfl (by decide) (by kernel_rfl) ?_
  simp (maxSteps := 1000000) -implicitDefEqProofs only [push_cast, seval, y2]
  have p0 := ((Pre.refl h).alloc (AOb.cells [.slice A s.vars.length ca, vB, Value.string s.out] .solo h.n)).alloc (AOb.cells [.slice none 0 0, .slice none 0 0, .string ⟨#[]⟩] .solo (h.n + 1))
  with_reducible refine CC.mono (l08Copy_c s _ vB _ (r.pre p0) zs.sz) (fun v h1 hv => ?_)
  with_reducible refine Exists.elim hv (fun rA hv => ?_)
  with_reducible refine Exists.elim hv (fun rB hv => ?_)
  have e1 := hv.1
  have o1 := hv.2.1
  have p1 := hv.2.2
  clear hv
  subst e1
  have y3 := o1.one.1
  have y4 := o1.one.2
  have n1 : h.n + 2 ≤ h1.n := p1.n
  have g0 : h1.ob h.n = AOb.cells [.slice A s.vars.length ca, vB, Value.string s.out] .solo h.n := (p1.ob _ (by show h.n < h.n + 2; omega)).trans (by (try simp (maxSteps := 1000000) -implicitDefEqProofs only [push_cast, seval, rdOb]); try rfl)
  have g1 : h1.ob (h.n + 1) = AOb.cells [.slice none 0 0, .slice none 0 0, .string ⟨#[]⟩] .solo (h.n + 1) := (p1.ob _ (by show h.n + 1 < h.n + 2; omega)).trans (by (try simp (maxSteps := 1000000) -implicitDefEqProofs only [push_cast, seval, rdOb]); try rfl)
  have l0 : h.n < h1.n := by omega
  have l1 : h.n + 1 < h1.n := by omega
  simp (maxSteps := 1000000) -implicitDefEqProofs only [push_cast, seval, g0, rd_of g0, rd1_of g0, g1, rd_of g1, rd1_of g1, l0, l1, y3, y4]
  have q1 : Pre h1 (((h1.alloc (AOb.cells [Value.slice none 0 0, Value.slice none 0 0, Value.string ⟨#[]⟩] .solo h1.n)).set h1.n (AOb.cells [rA, rB, Value.string s.out] .solo h1.n)).alloc (AOb.cells [] .solo (h1.n + 1))) := (((Pre.refl h1).alloc _).set (Nat.le_refl _) _).alloc _
  refine WC.loopA (by kernel_rfl) [8, 9] [14, 15, 16, 17, 18, 19, 20, 21, 22, 23, 24, 25, 26, 27, 28, 29, 30, 31, 32, 33, 34, 35, 36] (fun a : Nat × Value => [a.2, .int .i64 (a.1 : Nat)]) (fun a h' => a.1 ≤ s.vars.length ∧ Gr (h1.n + 1) h' a.2 2 ((((s.vars.take a.1).filter (vLt name)).map Var.enc).flatten) ∧ h'.ob h1.n = (AOb.cells [rA, rB, Value.string s.out] .solo h1.n) ∧ Pre h1 h' ∧ h1.n + 1 < h'.n) (fun a => s.vars.length - a.1) (0, .slice (some ⟨h1.n + 1, 0, none⟩) 0 2) (by kernel_rfl) ⟨Nat.zero_le _, ?_, ?_, q1, ?_⟩ ?_
  · exact .inr ⟨h1.n + 1, 0, 0, rfl, Nat.le_refl _, Own.zero rfl 2⟩
  · exact (alloc_lt _ (by show h1.n < h1.n + 1; omega)).trans (set_same _ _)
  · show h1.n + 1 < h1.n + 2
    omega
  intro a g h2 hJ
  have hi := hJ.1
  have hg := hJ.2.1
  have u1 := hJ.2.2.1
  have p2 := hJ.2.2.2.1
  have n2 := hJ.2.2.2.2
  clear hJ
  have g0' : h2.ob h.n = _ := (p2.ob _ l0).trans g0
  have l0' : h.n < h2.n := by omega
  have hlen := filter_len (vLt name) s.vars a.1
  have lw : h1.n < h2.n := by omega
  simp (maxSteps := 1000000) -implicitDefEqProofs only [push_cast, seval, g0', rd_of g0', rd1_of g0', l0']
  with_reducible refine bcase_d (fun hb => ?_) (fun hb => ?_)
  · have hi' : a.1 < s.vars.length := by omega
    with_reducible refine hR.use big (p0.trans (p1.trans p2)) hi' (fun id off eA hlt hr => ?_)
    subst eA
    simp only [Var.enc] at hr
    have r0 := (rd_2 hr).1
    have r1 := (rd_2 hr).2
    have hfl := filter_next (vLt name) hi'
    have hcl : ((((s.vars.take a.1).filter (vLt name)).map Var.enc).flatten).length = ((s.vars.take a.1).filter (vLt name)).length * 2 := flat_len (k := 2) _ (fun _ => rfl)
    simp (maxSteps := 1000000) -implicitDefEqProofs only [push_cast, seval, g0', rd_of g0', rd1_of g0', l0', hr, r0, r1, hlt]
    refine And.intro (by omega) (And.intro (by omega) ?_)
    with_reducible refine bcase_mk (fun hb2 => ?_) (fun hb2 => ?_)
    · simp (maxSteps := 1000000) -implicitDefEqProofs only [push_cast, seval, g0', rd_of g0', rd1_of g0', l0', hr, r0, r1, hlt]
      refine And.intro (by omega) (And.intro (by omega) ?_)
      refine Gr.app1 (h0 := h1) si24 (by decide) (by decide) (notInt_sl und24) (hg.mono (Nat.le_succ h1.n)) p2 rfl (by rw [hcl]; omega) (by decide) (fun h' gr ow p' hn' he => ?_)
      have w1 : h'.ob h1.n = _ := (he h1.n lw (hg.not_low (Nat.lt_succ_self _))).trans u1
      have g0'' : h'.ob h.n = _ := (p'.ob _ l0).trans g0
      have l0'' : h.n < h'.n := by omega
      simp (maxSteps := 1000000) -implicitDefEqProofs only [push_cast, seval, g0'', rd_of g0'', rd1_of g0'', l0'']
      rw [wrapSucc (by omega)]
      refine ⟨(a.1 + 1, .slice (some ⟨h2.n + 1, 0, none⟩) ((((s.vars.take a.1).filter (vLt name)).map Var.enc).flatten.length / 2 + 1) 2), by kernel_rfl, ⟨by show a.1 + 1 ≤ s.vars.length; omega, ?_, w1, p', by omega⟩, by show s.vars.length - (a.1 + 1) < s.vars.length - a.1; omega⟩
      have e : (((s.vars.take (a.1 + 1)).filter (vLt name)).map Var.enc).flatten = (((s.vars.take a.1).filter (vLt name)).map Var.enc).flatten ++ [.string s.vars[a.1].name, .string s.vars[a.1].val] := by
        rw [hfl, if_pos (show vLt name s.vars[a.1] = true from hb2), flat_snoc]; rfl
      show Gr (h1.n + 1) h' _ 2 (((s.vars.take (a.1 + 1)).filter (vLt name)).map Var.enc).flatten
      rw [e]
      exact .inr ⟨_, _, _, rfl, by omega, ow⟩
    · simp (maxSteps := 1000000) -implicitDefEqProofs only [push_cast, seval, g0', rd_of g0', rd1_of g0', l0', hr, r0, r1, hlt]
      rw [wrapSucc (by omega)]
      refine ⟨(a.1 + 1, a.2), by kernel_rfl, ⟨by show a.1 + 1 ≤ s.vars.length; omega, ?_, u1, p2, n2⟩, by show s.vars.length - (a.1 + 1) < s.vars.length - a.1; omega⟩
      show Gr (h1.n + 1) h2 a.2 2 (((s.vars.take (a.1 + 1)).filter (vLt name)).map Var.enc).flatten
      rw [hfl, if_neg (by rw [show vLt name s.vars[a.1] = false from hb2]; decide), List.append_nil]
      exact hg
  · have ea : a.1 = s.vars.length := by omega
    rw [ea, List.take_length] at hg
    simp (maxSteps := 1000000) -implicitDefEqProofs only [push_cast, seval]
    with_reducible refine CD.to (Cut_s val hvl _) ?_
    simp (maxSteps := 1000000) -implicitDefEqProofs only [push_cast, seval]
    have hcl : ((((s.vars.filter (vLt name)).map Var.enc).flatten)).length = (s.vars.filter (vLt name)).length * 2 := flat_len (k := 2) _ (fun _ => rfl)
    have hlen2 := filter_len2 (vLt name) s.vars
    refine Gr.app1 (h0 := h1) si24 (by decide) (by decide) (notInt_sl und24) (hg.mono (Nat.le_succ h1.n)) p2 rfl (by rw [hcl]; omega) (by decide) (fun h3 gr3 ow3 p3 hn3 he3 => ?_)
    have w1 : h3.ob h1.n = _ := (he3 h1.n lw (hg.not_low (Nat.lt_succ_self _))).trans u1
    have g03 : h3.ob h.n = _ := (p3.ob _ l0).trans g0
    have l03 : h.n < h3.n := by omega
    have ec : ((s.vars.filter (vLt name)).map Var.enc).flatten ++ [.string name, .string (cutB val)] = ((s.vars.filter (vLt name) ++ [(⟨name, cutB val⟩ : Var)]).map Var.enc).flatten := by
      rw [flat_snoc]; rfl
    rw [ec] at gr3 ow3
    generalize hF : s.vars.filter (vLt name) ++ [(⟨name, cutB val⟩ : Var)] = F at gr3 ow3
    have hFl : F.length = (s.vars.filter (vLt name)).length + 1 := by rw [← hF]; simp
    simp (maxSteps := 1000000) -implicitDefEqProofs only [push_cast, seval, g03, rd_of g03, rd1_of g03, l03]
    rw [hcl, Nat.mul_div_cancel _ (by decide : 0 < 2), ← hFl]
    rw [hcl, Nat.mul_div_cancel _ (by decide : 0 < 2), ← hFl] at gr3 ow3
    refine WC.loopA (by kernel_rfl) [8, 10] [44, 45, 46, 47, 48, 49, 50, 51, 52, 53, 54, 55, 56, 57, 58, 59, 60, 61, 62, 63, 64, 65, 66] (fun a : Nat × Value => [a.2, .int .i64 (a.1 : Nat)]) (fun a h' => a.1 ≤ s.vars.length ∧ Gr (h1.n + 1) h' a.2 2 ((F ++ (s.vars.take a.1).filter (vGt name)).map Var.enc).flatten ∧ h'.ob h1.n = (AOb.cells [rA, rB, Value.string s.out] .solo h1.n) ∧ Pre h1 h' ∧ h1.n + 1 < h'.n) (fun a => s.vars.length - a.1) (0, .slice (some ⟨h2.n + 1, 0, none⟩) F.length 2) (by kernel_rfl) ⟨Nat.zero_le _, ?_, w1, p3, ?_⟩ ?_
    · show Gr (h1.n + 1) h3 _ 2 ((F ++ (s.vars.take 0).filter (vGt name)).map Var.enc).flatten
      rw [List.take_zero, List.filter_nil, List.append_nil]
      exact .inr ⟨_, _, _, rfl, by omega, ow3⟩
    · omega
    clear gr3 ow3 he3 p2 n2 g0' l0' lw u1 hg hlen
    intro b g' h4 hJ
    have hi4 := hJ.1
    have hg4 := hJ.2.1
    have u4 := hJ.2.2.1
    have p4 := hJ.2.2.2.1
    have n4 := hJ.2.2.2.2
    clear hJ
    have g04 : h4.ob h.n = _ := (p4.ob _ l0).trans g0
    have l04 : h.n < h4.n := by omega
    have hlen4 := filter_len (vGt name) s.vars b.1
    have lw4 : h1.n < h4.n := by omega
    simp (maxSteps := 1000000) -implicitDefEqProofs only [push_cast, seval, g04, rd_of g04, rd1_of g04, l04]
    with_reducible refine bcase_d (fun hb4 => ?_) (fun hb4 => ?_)
    · have hi' : b.1 < s.vars.length := by omega
      with_reducible refine hR.use big (p0.trans (p1.trans p4)) hi' (fun id off eA hlt hr => ?_)
      subst eA
      simp only [Var.enc] at hr
      have r0 := (rd_2 hr).1
      have r1 := (rd_2 hr).2
      have hfl := filter_next (vGt name) hi'
      have hcl4 : (((F ++ (s.vars.take b.1).filter (vGt name)).map Var.enc).flatten).length = (F.length + ((s.vars.take b.1).filter (vGt name)).length) * 2 := by rw [← List.length_append]; exact flat_len (k := 2) _ (fun _ => rfl)
      simp (maxSteps := 1000000) -implicitDefEqProofs only [push_cast, seval, g04, rd_of g04, rd1_of g04, l04, hr, r0, r1, hlt]
      refine And.intro (by omega) (And.intro (by omega) ?_)
      with_reducible refine bcase_mk (fun hb2 => ?_) (fun hb2 => ?_)
      · have hb3 : vGt name s.vars[b.1] = false := by unfold vGt; rw [← gtB, hb2]; rfl
        simp (maxSteps := 1000000) -implicitDefEqProofs only [push_cast, seval, g04, rd_of g04, rd1_of g04, l04, hr, r0, r1, hlt]
        rw [wrapSucc (by omega)]
        refine ⟨(b.1 + 1, b.2), by kernel_rfl, ⟨by show b.1 + 1 ≤ s.vars.length; omega, ?_, u4, p4, n4⟩, by show s.vars.length - (b.1 + 1) < s.vars.length - b.1; omega⟩
        show Gr (h1.n + 1) h4 b.2 2 ((F ++ (s.vars.take (b.1 + 1)).filter (vGt name)).map Var.enc).flatten
        rw [hfl, if_neg (by rw [hb3]; decide), List.append_nil]
        exact hg4
      · have hb3 : vGt name s.vars[b.1] = true := by unfold vGt; rw [← gtB, hb2]; rfl
        simp (maxSteps := 1000000) -implicitDefEqProofs only [push_cast, seval, g04, rd_of g04, rd1_of g04, l04, hr, r0, r1, hlt]
        refine And.intro (by omega) (And.intro (by omega) ?_)
        refine Gr.app1 (h0 := h1) si24 (by decide) (by decide) (notInt_sl und24) (hg4.mono (Nat.le_succ h1.n)) p4 rfl (by rw [hcl4]; omega) (by decide) (fun h' gr ow p' hn' he => ?_)
        have w1 : h'.ob h1.n = _ := (he h1.n lw4 (hg4.not_low (Nat.lt_succ_self _))).trans u4
        have g0'' : h'.ob h.n = _ := (p'.ob _ l0).trans g0
        have l0'' : h.n < h'.n := by omega
        simp (maxSteps := 1000000) -implicitDefEqProofs only [push_cast, seval, g0'', rd_of g0'', rd1_of g0'', l0'']
        rw [wrapSucc (by omega)]
        refine ⟨(b.1 + 1, .slice (some ⟨h4.n + 1, 0, none⟩) (((F ++ (s.vars.take b.1).filter (vGt name)).map Var.enc).flatten.length / 2 + 1) 2), by kernel_rfl, ⟨by show b.1 + 1 ≤ s.vars.length; omega, ?_, w1, p', by omega⟩, by show s.vars.length - (b.1 + 1) < s.vars.length - b.1; omega⟩
        have e : ((F ++ (s.vars.take (b.1 + 1)).filter (vGt name)).map Var.enc).flatten = ((F ++ (s.vars.take b.1).filter (vGt name)).map Var.enc).flatten ++ [.string s.vars[b.1].name, .string s.vars[b.1].val] := by
          rw [hfl, if_pos hb3, ← List.append_assoc, flat_snoc]; rfl
        show Gr (h1.n + 1) h' _ 2 ((F ++ (s.vars.take (b.1 + 1)).filter (vGt name)).map Var.enc).flatten
        rw [e]
        exact .inr ⟨_, _, _, rfl, by omega, ow⟩
    · have eb : b.1 = s.vars.length := by omega
      rw [eb, List.take_length, ← hF] at hg4
      have hgN : Gr (h1.n + 1) h4 b.2 2 ((newV s.vars name val).map Var.enc).flatten := hg4
      obtain ⟨B, cB, eB, rB4⟩ := hgN.read (by decide) (fun _ => rfl)
      have g14 : h4.ob (h.n + 1) = _ := (p4.ob _ l1).trans g1
      have l14 : h.n + 1 < h4.n := by omega
      have hne : h.n + 1 ≠ h1.n := by omega
      simp (maxSteps := 1000000) -implicitDefEqProofs only [push_cast, seval, eB, u4, rd_of u4, rd1_of u4, lw4]
      with_reducible refine bcase_d (fun hb5 => ?_) (fun hb5 => ?_)
      · simp (maxSteps := 1000000) -implicitDefEqProofs only [push_cast, seval, eB, u4, rd_of u4, rd1_of u4, lw4, l1, y3, y4, g14, rd_of g14, rd1_of g14, l14, hne]
        have eS : setV s name val = ⟨newV s.vars name val, s.cells, s.out⟩ := by unfold setV; rw [if_pos (by omega)]
        rw [eS]
        rw [← eB] at *
        refine ⟨b.2, rB, rfl, ⟨(hgN.mono (by omega)).keep (Nat.le_refl _) (fun i e => ?_), (o1.b.mono (by show h.n ≤ h.n + 2; omega)).keep (by show h1.n ≤ h4.n; omega) (fun i e => ?_), fun i e e' => ?_⟩, ((p0.trans (p1.trans p4)).set (by omega) _).set (by omega) _⟩
        · have := hgN.range e
          rw [set_ne _ (by omega), set_ne _ (by omega)]
        · have e2 : h.n + 2 ≤ i ∧ i < h1.n := o1.b.range e
          rw [set_ne _ (by omega), set_ne _ (by omega)]
          exact p4.ob _ (by omega)
        · have := hgN.range e
          have := o1.b.range e'
          omega
      · simp (maxSteps := 1000000) -implicitDefEqProofs only [push_cast, seval, eB, u4, rd_of u4, rd1_of u4, lw4, l1, y3, y4, g14, rd_of g14, rd1_of g14, l14, hne]
        have eS : setV s name val = s := by unfold setV; rw [if_neg (by omega)]
        rw [eS]
        refine ⟨rA, rB, rfl, (o1.mono (by show h.n ≤ h.n + 2; omega)).to (by show h1.n ≤ h4.n; omega) (fun i e => ?_), ((p0.trans (p1.trans p4))).set (by omega) _⟩
        have e2 : h.n + 2 ≤ i ∧ i < h1.n := o1.range e
        rw [set_ne _ (by omega)]
        exact p4.ob _ (by omega)
end Go.Proofs.YtcggnolnakgkeaaDoor
namespace Go.Proofs.YtcggnolnakgkeaaDoor
open Go Go.Sim Go.Proofs
set_option linter.unusedSimpArgs false
set_option linter.unusedVariables false
set_option maxRecDepth 100000
set_option maxHeartbeats 1000000
theorem SetCell_s (s : Store) (name key val : ByteArray) (vA vB : Value) (h : AH) (r : RdT h vA vB s) (zs : SzB s) (hn : name.size ≤ 2000000) (hkl : key.size ≤ maxLen) (hvl : val.size ≤ maxLen) :
    CC Tryd.prog 34 [.agg #[vA, vB, .string s.out], .string name, .string key, .string val] h (fun v h' => ∃ rA rB, v = .agg #[rA, rB, .string (setC s name key val).out] ∧ OwnT h h' rA rB (setC s name key val) ∧ Pre h h') := by
  have y1 := r.vars.one
  have y2 := r.cells.one
  have znv := zs.nc
  have hm := maxLen_eq
  obtain ⟨A, ca, rfl, hR⟩ := r.cells.rde (fun _ => rfl)
  refine CC.withBig (fun big => ?_)
  refine CC.ofN Tryd.func34 Tryd.ntmps34 Tryd.results34 rfl (by decide) (by kernel_rfl) ?_
  simp (maxSteps := 1000000) -implicitDefEqProofs only [push_cast, seval, y1]
  have p0 := ((Pre.refl h).alloc (AOb.cells [vA, .slice A s.cells.length ca, Value.string s.out] .solo h.n)).alloc (AOb.cells [.slice none 0 0, .slice none 0 0, .string ⟨#[]⟩] .solo (h.n + 1))
  with_reducible refine CC.mono (l08Copy_c s vA _ _ (r.pre p0) zs.sz) (fun v h1 hv => ?_)
  with_reducible refine Exists.elim hv (fun rA hv => ?_)
  with_reducible refine Exists.elim hv (fun rB hv => ?_)
  have e1 := hv.1
  have o1 := hv.2.1
  have p1 := hv.2.2
  clear hv
  subst e1
  have y3 := o1.one.1
  have y4 := o1.one.2
  have n1 : h.n + 2 ≤ h1.n := p1.n
  have g0 : h1.ob h.n = AOb.cells [vA, .slice A s.cells.length ca, Value.string s.out] .solo h.n := (p1.ob _ (by show h.n < h.n + 2; omega)).trans (by (try simp (maxSteps := 1000000) -implicitDefEqProofs only [push_cast, seval, rdOb]); try rfl)
  have g1 : h1.ob (h.n + 1) = AOb.cells [.slice none 0 0, .slice none 0 0, .string ⟨#[]⟩] .solo (h.n + 1) := (p1.ob _ (by show h.n + 1 < h.n + 2; omega)).trans (by (try simp (maxSteps := 1000000) -implicitDefEqProofs only [push_cast, seval, rdOb]); try rfl)
  have l0 : h.n < h1.n := by omega
  have l1 : h.n + 1 < h1.n := by omega
  simp (maxSteps := 1000000) -implicitDefEqProofs only [push_cast, seval, g0, rd_of g0, rd1_of g0, g1, rd_of g1, rd1_of g1, l0, l1, y3, y4]
  with_reducible refine CD.to (Cut_s key hkl _) ?_
  simp (maxSteps := 1000000) -implicitDefEqProofs only [push_cast, seval, g0, rd_of g0, rd1_of g0, g1, rd_of g1, rd1_of g1, l0, l1, y3, y4]
  with_reducible refine CD.to (Cut_s val hvl _) ?_
  simp (maxSteps := 1000000) -implicitDefEqProofs only [push_cast, seval, g0, rd_of g0, rd1_of g0, g1, rd_of g1, rd1_of g1, l0, l1, y3, y4]
  generalize hY : mkC name key val = Y
  have hY1 : Y.name = name := by rw [← hY]; rfl
  have hY2 : Y.key = cutB key := by rw [← hY]; rfl
  have hY3 : Y.val = cutB val := by rw [← hY]; rfl
  rw [← hY2, ← hY3]
  have hL := fun (x : Cell) (h : AH) => l08Ahead_c x Y h
  have hG := fun (x : Cell) (h : AH) => l08Ahead_c Y x h
  rw [hY1] at hL hG
  have q1 : Pre h1 (((((h1.alloc (AOb.cells [Value.slice none 0 0, Value.slice none 0 0, Value.string ⟨#[]⟩] .solo h1.n)).set h1.n (AOb.cells [rA, rB, Value.string s.out] .solo h1.n)).alloc (AOb.cells [.string ⟨#[]⟩, .string ⟨#[]⟩, .string ⟨#[]⟩] .solo (h1.n + 1))).set (h1.n + 1) (AOb.cells [.string name, .string Y.key, .string Y.val] .solo (h1.n + 1))).alloc (AOb.cells [] .solo (h1.n + 2))) := (((((Pre.refl h1).alloc _).set (Nat.le_refl _) _).alloc _).set (by omega) _).alloc _
  refine WC.loopA (by kernel_rfl) [11, 12] [23, 24, 25, 26, 27, 28, 29, 30, 31, 32, 33, 34, 35, 36, 37, 38, 39, 40, 41, 42, 43, 44] (fun a : Nat × Value => [a.2, .int .i64 (a.1 : Nat)]) (fun a h' => a.1 ≤ s.cells.length ∧ Gr (h1.n + 2) h' a.2 3 ((((s.cells.take a.1).filter (cLt Y)).map Cell.enc).flatten) ∧ h'.ob h1.n = (AOb.cells [rA, rB, Value.string s.out] .solo h1.n) ∧ Pre h1 h' ∧ h1.n + 2 < h'.n ∧ h'.ob (h1.n + 1) = AOb.cells [.string name, .string Y.key, .string Y.val] .solo (h1.n + 1)) (fun a => s.cells.length - a.1) (0, .slice (some ⟨h1.n + 2, 0, none⟩) 0 3) (by kernel_rfl) ⟨Nat.zero_le _, ?_, ?_, q1, ?_, ?_⟩ ?_
  · exact .inr ⟨h1.n + 2, 0, 0, rfl, Nat.le_refl _, Own.zero rfl 3⟩
  · exact (alloc_lt _ (by show h1.n < h1.n + 2; omega)).trans ((set_ne _ (by omega)).trans ((alloc_lt _ (by show h1.n < h1.n + 1; omega)).trans (set_same _ _)))
  · show h1.n + 2 < h1.n + 3
    omega
  · exact (alloc_lt _ (by show h1.n + 1 < h1.n + 2; omega)).trans (set_same _ _)
  intro a g h2 hJ
  have hi := hJ.1
  have hg := hJ.2.1
  have u1 := hJ.2.2.1
  have p2 := hJ.2.2.2.1
  have n2 := hJ.2.2.2.2.1
  have c2 := hJ.2.2.2.2.2
  clear hJ
  have g0' : h2.ob h.n = _ := (p2.ob _ l0).trans g0
  have l0' : h.n < h2.n := by omega
  have hlen := filter_len (cLt Y) s.cells a.1
  have lw : h1.n < h2.n := by omega
  have lc : h1.n + 1 < h2.n := by omega
  simp (maxSteps := 1000000) -implicitDefEqProofs only [push_cast, seval, g0', rd_of g0', rd1_of g0', l0']
  with_reducible refine bcase_d (fun hb => ?_) (fun hb => ?_)
  · have hi' : a.1 < s.cells.length := by omega
    with_reducible refine hR.use big (p0.trans (p1.trans p2)) hi' (fun id off eA hlt hr => ?_)
    subst eA
    simp only [Cell.enc] at hr
    have r0 := (rd_3 hr).1
    have r1 := (rd_3 hr).2.1
    have r2 := (rd_3 hr).2.2
    have hfl := filter_next (cLt Y) hi'
    have hcl : ((((s.cells.take a.1).filter (cLt Y)).map Cell.enc).flatten).length = ((s.cells.take a.1).filter (cLt Y)).length * 3 := flat_len (k := 3) _ (fun _ => rfl)
    simp (maxSteps := 1000000) -implicitDefEqProofs only [push_cast, seval, g0', rd_of g0', rd1_of g0', l0', hr, r0, r1, r2, hlt, c2, rd_of c2, rd1_of c2, lc]
    refine WC.draw' (by kernel_rfl) (by kernel_rfl) (.q 0 (.q 1 (.q 2 (.q 3 (.q 4 (.q 5 (.c 6 (.done)))))))) (by kernel_rfl) ?_
    simp (maxSteps := 1000000) -implicitDefEqProofs only [push_cast, seval, g0', rd_of g0', rd1_of g0', l0', hr, r0, r1, r2, hlt, c2, rd_of c2, rd1_of c2, lc]
    refine And.intro (by omega) (And.intro (by omega) ?_)
    refine CQ.pure (fun h' => hL s.cells[a.1] h') ?_
    simp (maxSteps := 1000000) -implicitDefEqProofs only [push_cast, seval, g0', rd_of g0', rd1_of g0', l0', hr, r0, r1, r2, hlt, c2, rd_of c2, rd1_of c2, lc]
    with_reducible refine bcase_mk (fun hb2 => ?_) (fun hb2 => ?_)
    · simp (maxSteps := 1000000) -implicitDefEqProofs only [push_cast, seval, g0', rd_of g0', rd1_of g0', l0', hr, r0, r1, r2, hlt, c2, rd_of c2, rd1_of c2, lc]
      refine And.intro (by omega) (And.intro (by omega) ?_)
      refine Gr.app1 (h0 := h1) si25 (by decide) (by decide) (notInt_sl und25) (hg.mono (by omega)) p2 rfl (by rw [hcl]; omega) (by decide) (fun h' gr ow p' hn' he => ?_)
      have w1 : h'.ob h1.n = _ := (he h1.n lw (hg.not_low (by omega))).trans u1
      have cw1 : h'.ob (h1.n + 1) = _ := (he (h1.n + 1) lc (hg.not_low (by omega))).trans c2
      have g0'' : h'.ob h.n = _ := (p'.ob _ l0).trans g0
      have l0'' : h.n < h'.n := by omega
      simp (maxSteps := 1000000) -implicitDefEqProofs only [push_cast, seval, g0'', rd_of g0'', rd1_of g0'', l0'']
      rw [wrapSucc (by omega)]
      refine ⟨(a.1 + 1, .slice (some ⟨h2.n + 1, 0, none⟩) ((((s.cells.take a.1).filter (cLt Y)).map Cell.enc).flatten.length / 3 + 1) 3), by kernel_rfl, ⟨by show a.1 + 1 ≤ s.cells.length; omega, ?_, w1, p', by omega, cw1⟩, by show s.cells.length - (a.1 + 1) < s.cells.length - a.1; omega⟩
      have e : (((s.cells.take (a.1 + 1)).filter (cLt Y)).map Cell.enc).flatten = (((s.cells.take a.1).filter (cLt Y)).map Cell.enc).flatten ++ [.string s.cells[a.1].name, .string s.cells[a.1].key, .string s.cells[a.1].val] := by
        rw [hfl, if_pos (show cLt Y s.cells[a.1] = true from hb2), flat_snoc]; rfl
      show Gr (h1.n + 2) h' _ 3 (((s.cells.take (a.1 + 1)).filter (cLt Y)).map Cell.enc).flatten
      rw [e]
      exact .inr ⟨_, _, _, rfl, by omega, ow⟩
    · simp (maxSteps := 1000000) -implicitDefEqProofs only [push_cast, seval, g0', rd_of g0', rd1_of g0', l0', hr, r0, r1, r2, hlt, c2, rd_of c2, rd1_of c2, lc]
      rw [wrapSucc (by omega)]
      refine ⟨(a.1 + 1, a.2), by kernel_rfl, ⟨by show a.1 + 1 ≤ s.cells.length; omega, ?_, u1, p2, n2⟩, by show s.cells.length - (a.1 + 1) < s.cells.length - a.1; omega⟩
      show Gr (h1.n + 2) h2 a.2 3 (((s.cells.take (a.1 + 1)).filter (cLt Y)).map Cell.enc).flatten
      rw [hfl, if_neg (by rw [show cLt Y s.cells[a.1] = false from hb2]; decide), List.append_nil]
      exact hg
  · have ea : a.1 = s.cells.length := by omega
    rw [ea, List.take_length] at hg
    simp (maxSteps := 1000000) -implicitDefEqProofs only [push_cast, seval, c2, rd_of c2, rd1_of c2, lc]
    have hcl : ((((s.cells.filter (cLt Y)).map Cell.enc).flatten)).length = (s.cells.filter (cLt Y)).length * 3 := flat_len (k := 3) _ (fun _ => rfl)
    have hlen2 := filter_len2 (cLt Y) s.cells
    refine Gr.app1 (h0 := h1) si25 (by decide) (by decide) (notInt_sl und25) (hg.mono (by omega)) p2 rfl (by rw [hcl]; omega) (by decide) (fun h3 gr3 ow3 p3 hn3 he3 => ?_)
    have w1 : h3.ob h1.n = _ := (he3 h1.n lw (hg.not_low (by omega))).trans u1
    have g03 : h3.ob h.n = _ := (p3.ob _ l0).trans g0
    have l03 : h.n < h3.n := by omega
    have cw3 : h3.ob (h1.n + 1) = _ := (he3 (h1.n + 1) lc (hg.not_low (by omega))).trans c2
    have ec : ((s.cells.filter (cLt Y)).map Cell.enc).flatten ++ [.string name, .string Y.key, .string Y.val] = ((s.cells.filter (cLt Y) ++ [Y]).map Cell.enc).flatten := by
      rw [flat_snoc, Cell.enc, hY1]
    rw [ec] at gr3 ow3
    generalize hF : s.cells.filter (cLt Y) ++ [Y] = F at gr3 ow3
    have hFl : F.length = (s.cells.filter (cLt Y)).length + 1 := by rw [← hF]; simp
    simp (maxSteps := 1000000) -implicitDefEqProofs only [push_cast, seval, g03, rd_of g03, rd1_of g03, l03]
    rw [hcl, Nat.mul_div_cancel _ (by decide : 0 < 3), ← hFl]
    rw [hcl, Nat.mul_div_cancel _ (by decide : 0 < 3), ← hFl] at gr3 ow3
    refine WC.loopA (by kernel_rfl) [11, 13] [49, 50, 51, 52, 53, 54, 55, 56, 57, 58, 59, 60, 61, 62, 63, 64, 65, 66, 67, 68, 69, 70] (fun a : Nat × Value => [a.2, .int .i64 (a.1 : Nat)]) (fun a h' => a.1 ≤ s.cells.length ∧ Gr (h1.n + 2) h' a.2 3 ((F ++ (s.cells.take a.1).filter (cGt Y)).map Cell.enc).flatten ∧ h'.ob h1.n = (AOb.cells [rA, rB, Value.string s.out] .solo h1.n) ∧ Pre h1 h' ∧ h1.n + 2 < h'.n ∧ h'.ob (h1.n + 1) = AOb.cells [.string name, .string Y.key, .string Y.val] .solo (h1.n + 1)) (fun a => s.cells.length - a.1) (0, .slice (some ⟨h2.n + 1, 0, none⟩) F.length 3) (by kernel_rfl) ⟨Nat.zero_le _, ?_, w1, p3, ?_, cw3⟩ ?_
    · show Gr (h1.n + 2) h3 _ 3 ((F ++ (s.cells.take 0).filter (cGt Y)).map Cell.enc).flatten
      rw [List.take_zero, List.filter_nil, List.append_nil]
      exact .inr ⟨_, _, _, rfl, by omega, ow3⟩
    · omega
    clear gr3 ow3 he3 p2 n2 g0' l0' lw u1 hg hlen
    intro b g' h4 hJ
    have hi4 := hJ.1
    have hg4 := hJ.2.1
    have u4 := hJ.2.2.1
    have p4 := hJ.2.2.2.1
    have n4 := hJ.2.2.2.2.1
    have c4 := hJ.2.2.2.2.2
    clear hJ
    have g04 : h4.ob h.n = _ := (p4.ob _ l0).trans g0
    have l04 : h.n < h4.n := by omega
    have hlen4 := filter_len (cGt Y) s.cells b.1
    have lw4 : h1.n < h4.n := by omega
    have lc4 : h1.n + 1 < h4.n := by omega
    simp (maxSteps := 1000000) -implicitDefEqProofs only [push_cast, seval, g04, rd_of g04, rd1_of g04, l04]
    with_reducible refine bcase_d (fun hb4 => ?_) (fun hb4 => ?_)
    · have hi' : b.1 < s.cells.length := by omega
      with_reducible refine hR.use big (p0.trans (p1.trans p4)) hi' (fun id off eA hlt hr => ?_)
      subst eA
      simp only [Cell.enc] at hr
      have r0 := (rd_3 hr).1
      have r1 := (rd_3 hr).2.1
      have r2 := (rd_3 hr).2.2
      have hfl := filter_next (cGt Y) hi'
      have hcl4 : (((F ++ (s.cells.take b.1).filter (cGt Y)).map Cell.enc).flatten).length = (F.length + ((s.cells.take b.1).filter (cGt Y)).length) * 3 := by rw [← List.length_append]; exact flat_len (k := 3) _ (fun _ => rfl)
      simp (maxSteps := 1000000) -implicitDefEqProofs only [push_cast, seval, g04, rd_of g04, rd1_of g04, l04, hr, r0, r1, r2, hlt, c4, rd_of c4, rd1_of c4, lc4]
      refine WC.draw' (by kernel_rfl) (by kernel_rfl) (.q 0 (.q 1 (.q 2 (.q 3 (.q 4 (.q 5 (.c 6 (.done)))))))) (by kernel_rfl) ?_
      simp (maxSteps := 1000000) -implicitDefEqProofs only [push_cast, seval, g04, rd_of g04, rd1_of g04, l04, hr, r0, r1, r2, hlt, c4, rd_of c4, rd1_of c4, lc4]
      refine And.intro (by omega) (And.intro (by omega) ?_)
      refine CQ.pure (fun h' => hG s.cells[b.1] h') ?_
      simp (maxSteps := 1000000) -implicitDefEqProofs only [push_cast, seval, g04, rd_of g04, rd1_of g04, l04, hr, r0, r1, r2, hlt, c4, rd_of c4, rd1_of c4, lc4]
      with_reducible refine bcase_mk (fun hb2 => ?_) (fun hb2 => ?_)
      · have hb3 : cGt Y s.cells[b.1] = true := hb2
        simp (maxSteps := 1000000) -implicitDefEqProofs only [push_cast, seval, g04, rd_of g04, rd1_of g04, l04, hr, r0, r1, r2, hlt, c4, rd_of c4, rd1_of c4, lc4]
        refine And.intro (by omega) (And.intro (by omega) ?_)
        refine Gr.app1 (h0 := h1) si25 (by decide) (by decide) (notInt_sl und25) (hg4.mono (by omega)) p4 rfl (by rw [hcl4]; omega) (by decide) (fun h' gr ow p' hn' he => ?_)
        have w1 : h'.ob h1.n = _ := (he h1.n lw4 (hg4.not_low (by omega))).trans u4
        have cw1 : h'.ob (h1.n + 1) = _ := (he (h1.n + 1) lc4 (hg4.not_low (by omega))).trans c4
        have g0'' : h'.ob h.n = _ := (p'.ob _ l0).trans g0
        have l0'' : h.n < h'.n := by omega
        simp (maxSteps := 1000000) -implicitDefEqProofs only [push_cast, seval, g0'', rd_of g0'', rd1_of g0'', l0'']
        rw [wrapSucc (by omega)]
        refine ⟨(b.1 + 1, .slice (some ⟨h4.n + 1, 0, none⟩) (((F ++ (s.cells.take b.1).filter (cGt Y)).map Cell.enc).flatten.length / 3 + 1) 3), by kernel_rfl, ⟨by show b.1 + 1 ≤ s.cells.length; omega, ?_, w1, p', by omega, cw1⟩, by show s.cells.length - (b.1 + 1) < s.cells.length - b.1; omega⟩
        have e : ((F ++ (s.cells.take (b.1 + 1)).filter (cGt Y)).map Cell.enc).flatten = ((F ++ (s.cells.take b.1).filter (cGt Y)).map Cell.enc).flatten ++ [.string s.cells[b.1].name, .string s.cells[b.1].key, .string s.cells[b.1].val] := by
          rw [hfl, if_pos hb3, ← List.append_assoc, flat_snoc]; rfl
        show Gr (h1.n + 2) h' _ 3 ((F ++ (s.cells.take (b.1 + 1)).filter (cGt Y)).map Cell.enc).flatten
        rw [e]
        exact .inr ⟨_, _, _, rfl, by omega, ow⟩
      · have hb3 : cGt Y s.cells[b.1] = false := hb2
        simp (maxSteps := 1000000) -implicitDefEqProofs only [push_cast, seval, g04, rd_of g04, rd1_of g04, l04, hr, r0, r1, r2, hlt, c4, rd_of c4, rd1_of c4, lc4]
        rw [wrapSucc (by omega)]
        refine ⟨(b.1 + 1, b.2), by kernel_rfl, ⟨by show b.1 + 1 ≤ s.cells.length; omega, ?_, u4, p4, n4⟩, by show s.cells.length - (b.1 + 1) < s.cells.length - b.1; omega⟩
        show Gr (h1.n + 2) h4 b.2 3 ((F ++ (s.cells.take (b.1 + 1)).filter (cGt Y)).map Cell.enc).flatten
        rw [hfl, if_neg (by rw [hb3]; decide), List.append_nil]
        exact hg4
    · have eb : b.1 = s.cells.length := by omega
      rw [eb, List.take_length, ← hF] at hg4
      have hgN : Gr (h1.n + 2) h4 b.2 3 ((newC s.cells Y).map Cell.enc).flatten := hg4
      obtain ⟨B, cB, eB, rB4⟩ := hgN.read (by decide) (fun _ => rfl)
      have g14 : h4.ob (h.n + 1) = _ := (p4.ob _ l1).trans g1
      have l14 : h.n + 1 < h4.n := by omega
      have hne : h.n + 1 ≠ h1.n := by omega
      simp (maxSteps := 1000000) -implicitDefEqProofs only [push_cast, seval, eB, u4, rd_of u4, rd1_of u4, lw4]
      with_reducible refine bcase_d (fun hb5 => ?_) (fun hb5 => ?_)
      · simp (maxSteps := 1000000) -implicitDefEqProofs only [push_cast, seval, eB, u4, rd_of u4, rd1_of u4, lw4, l1, y3, y4, g14, rd_of g14, rd1_of g14, l14, hne]
        have eS : setC s name key val = ⟨s.vars, newC s.cells Y, s.out⟩ := by unfold setC; rw [hY, if_pos (by omega)]
        rw [eS]
        rw [← eB] at *
        refine ⟨rA, b.2, rfl, ⟨(o1.a.mono (by show h.n ≤ h.n + 2; omega)).keep (by show h1.n ≤ h4.n; omega) (fun i e => ?_), (hgN.mono (by omega)).keep (Nat.le_refl _) (fun i e => ?_), fun i e e' => ?_⟩, ((p0.trans (p1.trans p4)).set (by omega) _).set (by omega) _⟩
        · have e2 : h.n + 2 ≤ i ∧ i < h1.n := o1.a.range e
          rw [set_ne _ (by omega), set_ne _ (by omega)]
          exact p4.ob _ (by omega)
        · have := hgN.range e
          rw [set_ne _ (by omega), set_ne _ (by omega)]
        · have := hgN.range e'
          have := o1.a.range e
          omega
      · simp (maxSteps := 1000000) -implicitDefEqProofs only [push_cast, seval, eB, u4, rd_of u4, rd1_of u4, lw4, l1, y3, y4, g14, rd_of g14, rd1_of g14, l14, hne]
        have eS : setC s name key val = s := by unfold setC; rw [hY, if_neg (by omega)]
        rw [eS]
        refine ⟨rA, rB, rfl, (o1.mono (by show h.n ≤ h.n + 2; omega)).to (by show h1.n ≤ h4.n; omega) (fun i e => ?_), ((p0.trans (p1.trans p4))).set (by omega) _⟩
        have e2 : h.n + 2 ≤ i ∧ i < h1.n := o1.range e
        rw [set_ne _ (by omega)]
        exact p4.ob _ (by omega)
end Go.Proofs.YtcggnolnakgkeaaDoor
namespace Go.Proofs.YtcggnolnakgkeaaDoor
open Go Go.Proofs Go.Shelf
set_option maxRecDepth 100000
def ren8 : Go.Shelf.Ren := ⟨fun | 129 => 103 | 171 => 81 | 243 => 87 | 246 => 91 | 283 => 94 | 284 => 95 | 285 => 96 | 286 => 97 | 317 => 102 | 318 => 104 | 319 => 105 | 320 => 106 | 337 => 108 | 338 => 109 | n => n, fun | 0 => 0 | 2 => 2 | 3 => 3 | 4 => 4 | 5 => 5 | 9 => 9 | 20 => 20 | 37 => 22 | 46 => 95 | 51 => 123 | 53 => 109 | 171 => 108 | 173 => 112 | 212 => 122 | 213 => 124 | 232 => 128 | 233 => 129 | n => n, fun | 17 => 3 | 18 => 4 | 19 => 5 | n => n⟩
theorem lays171 : LaysM.n171 Tryd.prog ren8 := {
  mixed := by kernel_rfl
  f129 := Tryd.func103.trans (congrArg some (by kernel_rfl))
  f171 := Tryd.func81.trans (congrArg some (by kernel_rfl))
  f243 := Tryd.func87.trans (congrArg some (by kernel_rfl))
  f246 := Tryd.func91.trans (congrArg some (by kernel_rfl))
  f283 := Tryd.func94.trans (congrArg some (by kernel_rfl))
  f284 := Tryd.func95.trans (congrArg some (by kernel_rfl))
  f285 := Tryd.func96.trans (congrArg some (by kernel_rfl))
  f286 := Tryd.func97.trans (congrArg some (by kernel_rfl))
  f317 := Tryd.func102.trans (congrArg some (by kernel_rfl))
  f318 := Tryd.func104.trans (congrArg some (by kernel_rfl))
  f319 := Tryd.func105.trans (congrArg some (by kernel_rfl))
  f320 := Tryd.func106.trans (congrArg some (by kernel_rfl))
  f337 := Tryd.func108.trans (congrArg some (by kernel_rfl))
  f338 := Tryd.func109.trans (congrArg some (by kernel_rfl))
  t0 := Tryd.underlying0
  a0 := Tryd.isAgg0
  z0 := Tryd.sizeOf0
  v0 := Tryd.zeroValue0
  t2 := Tryd.underlying2
  a2 := Tryd.isAgg2
  z2 := Tryd.sizeOf2
  v2 := Tryd.zeroValue2
  t3 := Tryd.underlying3
  a3 := Tryd.isAgg3
  z3 := Tryd.sizeOf3
  v3 := Tryd.zeroValue3
  t4 := Tryd.underlying4
  a4 := Tryd.isAgg4
  z4 := Tryd.sizeOf4
  v4 := Tryd.zeroValue4
  t5 := Tryd.underlying5
  a5 := Tryd.isAgg5
  z5 := Tryd.sizeOf5
  v5 := Tryd.zeroValue5
  t9 := Tryd.underlying9
  a9 := Tryd.isAgg9
  z9 := Tryd.sizeOf9
  v9 := Tryd.zeroValue9
  t20 := Tryd.underlying20
  a20 := Tryd.isAgg20
  z20 := Tryd.sizeOf20
  v20 := Tryd.zeroValue20
  t37 := Tryd.underlying22
  a37 := Tryd.isAgg22
  z37 := Tryd.sizeOf22
  v37 := Tryd.zeroValue22
  t46 := Tryd.underlying95
  a46 := Tryd.isAgg95
  z46 := Tryd.sizeOf95
  v46 := Tryd.zeroValue95
  t51 := Tryd.underlying123
  a51 := Tryd.isAgg123
  z51 := Tryd.sizeOf123
  v51 := Tryd.zeroValue123
  t53 := Tryd.underlying109
  a53 := Tryd.isAgg109
  z53 := Tryd.sizeOf109
  v53 := Tryd.zeroValue109
  t171 := Tryd.underlying108
  a171 := Tryd.isAgg108
  z171 := Tryd.sizeOf108
  v171 := Tryd.zeroValue108
  t173 := Tryd.underlying112
  a173 := Tryd.isAgg112
  z173 := Tryd.sizeOf112
  v173 := Tryd.zeroValue112
  t212 := Tryd.underlying122
  a212 := Tryd.isAgg122
  z212 := Tryd.sizeOf122
  v212 := Tryd.zeroValue122
  t213 := Tryd.underlying124
  a213 := Tryd.isAgg124
  z213 := Tryd.sizeOf124
  t232 := Tryd.underlying128
  a232 := Tryd.isAgg128
  z232 := Tryd.sizeOf128
  v232 := Tryd.zeroValue128
  t233 := Tryd.underlying129
  a233 := Tryd.isAgg129
  z233 := Tryd.sizeOf129
  v233 := Tryd.zeroValue129
  g17 := by kernel_rfl
  g18 := by kernel_rfl
  g19 := by kernel_rfl
  i0 := by kernel_rfl
  i2 := by kernel_rfl
  i3 := by kernel_rfl
  i4 := by kernel_rfl
  i5 := by kernel_rfl
  i9 := by kernel_rfl
  i20 := by kernel_rfl
  i37 := by kernel_rfl
  i46 := by kernel_rfl
  i51 := by kernel_rfl
  i53 := by kernel_rfl
  i171 := by kernel_rfl
  i173 := by kernel_rfl
  i212 := by kernel_rfl
  i232 := by kernel_rfl
  i233 := by kernel_rfl
  m17 := by kernel_rfl
  m18 := by kernel_rfl
  m19 := by kernel_rfl }
def ren9 : Go.Shelf.Ren := ⟨fun | 119 => 99 | 137 => 98 | 151 => 90 | 152 => 93 | 161 => 77 | 197 => 89 | 217 => 107 | 224 => 100 | 225 => 101 | 227 => 83 | 228 => 88 | 231 => 82 | 233 => 84 | 235 => 85 | 260 => 92 | 266 => 110 | n => n, fun | 0 => 0 | 3 => 3 | 4 => 4 | 5 => 5 | 9 => 9 | 21 => 21 | 46 => 95 | 105 => 103 | 116 => 98 | 117 => 99 | 119 => 114 | 124 => 102 | 138 => 116 | 139 => 117 | n => n, fun | 3 => 1 | 4 => 2 | n => n⟩
theorem lays161 : Lays.n161 Tryd.prog ren9 := {
  mixed := by kernel_rfl
  f119 := Tryd.func99.trans (congrArg some (by kernel_rfl))
  f137 := Tryd.func98.trans (congrArg some (by kernel_rfl))
  f151 := Tryd.func90.trans (congrArg some (by kernel_rfl))
  f152 := Tryd.func93.trans (congrArg some (by kernel_rfl))
  f161 := Tryd.func77.trans (congrArg some (by kernel_rfl))
  f197 := Tryd.func89.trans (congrArg some (by kernel_rfl))
  f217 := Tryd.func107.trans (congrArg some (by kernel_rfl))
  f224 := Tryd.func100.trans (congrArg some (by kernel_rfl))
  f225 := Tryd.func101.trans (congrArg some (by kernel_rfl))
  f227 := Tryd.func83.trans (congrArg some (by kernel_rfl))
  f228 := Tryd.func88.trans (congrArg some (by kernel_rfl))
  f231 := Tryd.func82.trans (congrArg some (by kernel_rfl))
  f233 := Tryd.func84.trans (congrArg some (by kernel_rfl))
  f235 := Tryd.func85.trans (congrArg some (by kernel_rfl))
  f260 := Tryd.func92.trans (congrArg some (by kernel_rfl))
  f266 := Tryd.func110.trans (congrArg some (by kernel_rfl))
  t0 := Tryd.underlying0
  a0 := Tryd.isAgg0
  z0 := Tryd.sizeOf0
  v0 := Tryd.zeroValue0
  t3 := Tryd.underlying3
  a3 := Tryd.isAgg3
  z3 := Tryd.sizeOf3
  v3 := Tryd.zeroValue3
  t4 := Tryd.underlying4
  a4 := Tryd.isAgg4
  z4 := Tryd.sizeOf4
  v4 := Tryd.zeroValue4
  t5 := Tryd.underlying5
  a5 := Tryd.isAgg5
  z5 := Tryd.sizeOf5
  v5 := Tryd.zeroValue5
  t9 := Tryd.underlying9
  a9 := Tryd.isAgg9
  z9 := Tryd.sizeOf9
  v9 := Tryd.zeroValue9
  t21 := Tryd.underlying21
  a21 := Tryd.isAgg21
  z21 := Tryd.sizeOf21
  v21 := Tryd.zeroValue21
  t46 := Tryd.underlying95
  a46 := Tryd.isAgg95
  z46 := Tryd.sizeOf95
  v46 := Tryd.zeroValue95
  t105 := Tryd.underlying103
  a105 := Tryd.isAgg103
  z105 := Tryd.sizeOf103
  v105 := Tryd.zeroValue103
  t116 := Tryd.underlying98
  a116 := Tryd.isAgg98
  z116 := Tryd.sizeOf98
  t117 := Tryd.underlying99
  a117 := Tryd.isAgg99
  z117 := Tryd.sizeOf99
  v117 := Tryd.zeroValue99
  t119 := Tryd.underlying114
  a119 := Tryd.isAgg114
  z119 := Tryd.sizeOf114
  t124 := Tryd.underlying102
  a124 := Tryd.isAgg102
  z124 := Tryd.sizeOf102
  v124 := Tryd.zeroValue102
  t138 := Tryd.underlying116
  a138 := Tryd.isAgg116
  z138 := Tryd.sizeOf116
  v138 := Tryd.zeroValue116
  t139 := Tryd.underlying117
  a139 := Tryd.isAgg117
  z139 := Tryd.sizeOf117
  v139 := Tryd.zeroValue117
  g3 := by kernel_rfl
  g4 := by kernel_rfl }
end Go.Proofs.YtcggnolnakgkeaaDoor
/- Stores that are set stay right. Conditions: those that each theorem names. -/
set_option linter.unusedSimpArgs false
set_option linter.unusedVariables false
namespace Go.Sim
theorem bl_trans : ∀ a b c : List UInt8, Op.bytesLess a b = true → Op.bytesLess b c = true → Op.bytesLess a c = true
  | [], [], _ => by simp [Op.bytesLess]
  | [], _ :: _, [] => by simp [Op.bytesLess]
  | [], _ :: _, _ :: _ => by simp [Op.bytesLess]
  | _ :: _, [], _ => by simp [Op.bytesLess]
  | _ :: _, _ :: _, [] => by simp [Op.bytesLess]
  | x :: a, y :: b, z :: c => by
    have ih := bl_trans a b c
    simp only [Op.bytesLess]
    intro h1 h2
    by_cases e1 : x < y
    · by_cases e2 : y < z
      · have : x < z := UInt8.lt_trans e1 e2
        simp [this]
      · by_cases e3 : y = z
        · subst e3; simp [e1]
        · simp [e2, e3] at h2
    · by_cases e3 : x = y
      · subst e3
        by_cases e2 : x < z
        · simp [e2]
        · by_cases e4 : x = z
          · subst e4
            simp [UInt8.lt_irrefl] at h1 h2 ⊢
            exact ih h1 h2
          · simp [e2, e4] at h2
      · simp [e1, e3] at h1
theorem bl_irr (a : List UInt8) : Op.bytesLess a a = false := by
  induction a with
  | nil => rfl
  | cons x l ih => simp [Op.bytesLess, ih]
theorem ltB_trans {a b c : ByteArray} (h1 : ltB a b = true) (h2 : ltB b c = true) : ltB a c = true := bl_trans _ _ _ h1 h2
theorem ltB_irr (a : ByteArray) : ltB a a = false := bl_irr _
theorem cLess_trans {a b c : Cell} (h1 : cellCmp a b < 0) (h2 : cellCmp b c < 0) : cellCmp a c < 0 := by
  have k : ∀ x y : Cell, cellCmp x y < 0 ↔ (ltB x.name y.name = true ∨ x.name = y.name ∧ ltB x.key y.key = true) := fun x y => by
    have := cellCmp_lt x y
    rw [show (cellCmp x y < 0) = (decide (cellCmp x y < 0) = true) from by simp, this]
    simp
  rw [k] at h1 h2 ⊢
  rcases h1 with h1 | ⟨e1, h1⟩
  · rcases h2 with h2 | ⟨e2, h2⟩
    · exact .inl (ltB_trans h1 h2)
    · rw [← e2]; exact .inl h1
  · rcases h2 with h2 | ⟨e2, h2⟩
    · rw [e1]; exact .inl h2
    · exact .inr ⟨e1.trans e2, ltB_trans h1 h2⟩
theorem cLess_irr (a : Cell) : ¬ cellCmp a a < 0 := by
  rw [show (cellCmp a a < 0) = (decide (cellCmp a a < 0) = true) from by simp, cellCmp_lt]
  simp [ltB_irr]
/-- In order: each ahead of all behind it. -/
def Srt {α : Type} (R : α → α → Prop) (l : List α) : Prop := l.Pairwise R
theorem adj_srt {α : Type} {R : α → α → Prop} (tr : ∀ a b c, R a b → R b c → R a c) {l : List α} (h : ∀ i (hi : i < l.length) (h0 : 0 < i), R (l[i - 1]'(by omega)) l[i]) : l.Pairwise R := by
  rw [List.pairwise_iff_getElem]
  intro i j hi hj hij
  induction j with
  | zero => omega
  | succ j ih =>
    have hs := h (j + 1) hj (by omega)
    simp only [Nat.add_sub_cancel] at hs
    by_cases e : i = j
    · subst e; exact hs
    · exact tr _ _ _ (ih (by omega) (by omega)) hs
theorem srt_adj {α : Type} {R : α → α → Prop} {l : List α} (h : l.Pairwise R) {i : Nat} (hi : i < l.length) (h0 : 0 < i) : R (l[i - 1]'(by omega)) l[i] :=
  List.pairwise_iff_getElem.1 h (i - 1) i (by omega) hi (by omega)
def vR (a b : Var) : Prop := ltB a.name b.name = true
def cR (a b : Cell) : Prop := cellCmp a b < 0
theorem vR_trans (a b c : Var) (h : vR a b) (k : vR b c) : vR a c := ltB_trans h k
theorem cR_trans (a b c : Cell) (h : cR a b) (k : cR b c) : cR a c := cLess_trans h k
theorem storeOk_iff (s : Store) : storeOk s = true ↔
    (∀ x ∈ s.vars, letters x.name = true ∧ x.val.size ≤ 40) ∧ s.vars.Pairwise vR ∧
    (∀ x ∈ s.cells, letters x.name = true ∧ x.key.size ≤ 40 ∧ x.val.size ≤ 40) ∧ s.cells.Pairwise cR ∧ s.vars.length ≤ 60 ∧ s.cells.length ≤ 2000 ∧ s.out.size ≤ 3000 := by
  constructor
  · intro h
    have hl := storeOk_len h
    simp only [storeOk, Bool.and_eq_true] at h
    have hv := allN_iff.1 h.1.1.1.1
    have hc := allN_iff.1 h.1.1.1.2
    refine ⟨fun x hx => ?_, adj_srt (R := vR) vR_trans (fun i hi h0 => ?_), fun x hx => ?_, adj_srt (R := cR) cR_trans (fun i hi h0 => ?_), hl⟩
    · obtain ⟨i, hi, rfl⟩ := List.mem_iff_getElem.1 hx
      have := hv i hi
      rw [varOkAt_eq hi] at this
      simp only [Bool.and_eq_true, decide_eq_true_eq] at this
      exact ⟨this.1.1, by omega⟩
    · have := hv i hi
      rw [varOkAt_eq hi] at this
      simp only [Bool.and_eq_true, Bool.or_eq_true, beq_iff_eq] at this
      rcases this.2 with e | e
      · omega
      · exact e
    · obtain ⟨i, hi, rfl⟩ := List.mem_iff_getElem.1 hx
      have := hc i hi
      rw [cellOkAt_eq hi] at this
      simp only [Bool.and_eq_true, decide_eq_true_eq] at this
      exact ⟨this.1.1.1, by omega, by omega⟩
    · have := hc i hi
      rw [cellOkAt_eq hi] at this
      simp only [Bool.and_eq_true, Bool.or_eq_true, beq_iff_eq, decide_eq_true_eq] at this
      rcases this.2 with e | e
      · omega
      · exact e
  · rintro ⟨h1, h2, h3, h4, h5, h6, h7⟩
    simp only [storeOk, Bool.and_eq_true, decide_eq_true_eq]
    refine ⟨⟨⟨⟨allN_iff.2 (fun i hi => ?_), allN_iff.2 (fun i hi => ?_)⟩, by omega⟩, by omega⟩, by omega⟩
    · rw [varOkAt_eq hi]
      have a := h1 _ (List.getElem_mem hi)
      rcases Nat.eq_zero_or_pos i with e | e
      · rw [a.1, decide_eq_true (by omega), show (i == 0) = true by simp [e]]; rfl
      · have := srt_adj h2 hi e
        rw [a.1, decide_eq_true (by omega), show ltB _ _ = true from this, Bool.or_true]; rfl
    · rw [cellOkAt_eq hi]
      have a := h3 _ (List.getElem_mem hi)
      rcases Nat.eq_zero_or_pos i with e | e
      · rw [a.1, decide_eq_true (by omega), decide_eq_true (by omega), show (i == 0) = true by simp [e]]; rfl
      · have := srt_adj h4 hi e
        rw [a.1, decide_eq_true (by omega), decide_eq_true (by omega), decide_eq_true (show cellCmp _ _ < 0 from this), Bool.or_true]; rfl
theorem srt_new {α : Type} {R : α → α → Prop} (tr : ∀ a b c, R a b → R b c → R a c) {l : List α} (h : l.Pairwise R) (y : α) (p q : α → Bool) (hp : ∀ x, p x = true → R x y) (hq : ∀ x, q x = true → R y x) : (l.filter p ++ [y] ++ l.filter q).Pairwise R := by
  rw [List.pairwise_append, List.pairwise_append]
  refine ⟨⟨h.filter _, List.pairwise_singleton _ _, fun a ha b hb => ?_⟩, h.filter _, fun a ha b hb => ?_⟩
  · simp only [List.mem_singleton] at hb; subst hb
    exact hp a (List.mem_filter.1 ha).2
  · have hb' := hq b (List.mem_filter.1 hb).2
    rcases List.mem_append.1 ha with ha | ha
    · exact tr _ _ _ (hp a (List.mem_filter.1 ha).2) hb'
    · simp only [List.mem_singleton] at ha; subst ha; exact hb'
theorem setV_ok {s : Store} (h : storeOk s = true) {n v : ByteArray} (hn : letters n = true) : storeOk (setV s n v) = true := by
  unfold setV
  split
  · rename_i hl
    rw [storeOk_iff] at h ⊢
    obtain ⟨h1, h2, h3, h4, h5, h6, h7⟩ := h
    refine ⟨fun x hx => ?_, srt_new vR_trans h2 _ _ _ (fun x hx => hx) (fun x hx => hx), h3, h4, hl, h6, h7⟩
    simp only [newV, List.mem_append, List.mem_filter, List.mem_singleton] at hx
    rcases hx with (hx | rfl) | hx
    · exact h1 x hx.1
    · exact ⟨hn, cutB_size v⟩
    · exact h1 x hx.1
  · exact h
theorem setC_ok {s : Store} (h : storeOk s = true) {n k v : ByteArray} (hn : letters n = true) : storeOk (setC s n k v) = true := by
  unfold setC
  split
  · rename_i hl
    rw [storeOk_iff] at h ⊢
    obtain ⟨h1, h2, h3, h4, h5, h6, h7⟩ := h
    refine ⟨h1, h2, fun x hx => ?_, srt_new cR_trans h4 _ _ _ (fun x hx => (of_decide_eq_true hx : cellCmp _ _ < 0)) (fun x hx => (of_decide_eq_true hx : cellCmp _ _ < 0)), h5, hl, h7⟩
    simp only [newC, List.mem_append, List.mem_filter, List.mem_singleton] at hx
    rcases hx with (hx | rfl) | hx
    · exact h3 x hx.1
    · exact ⟨hn, cutB_size k, cutB_size v⟩
    · exact h3 x hx.1
  · exact h
theorem say_ok {s : Store} (h : storeOk s = true) (line : ByteArray) : storeOk (sayS s line) = true := by
  rw [storeOk_iff] at h ⊢
  obtain ⟨h1, h2, h3, h4, h5, h6, h7⟩ := h
  exact ⟨h1, h2, h3, h4, h5, h6, outB_size _⟩
theorem ok_szB {s : Store} (h : storeOk s = true) : SzB s := by
  rw [storeOk_iff] at h
  obtain ⟨h1, h2, h3, h4, h5, h6, h7⟩ := h
  have ls : ∀ y, letters y = true → y.size ≤ 8 := fun y hy => by
    simp only [letters, inB, Bool.and_eq_true, decide_eq_true_eq] at hy
    omega
  exact ⟨fun x hx => by have := h1 x hx; have := ls _ this.1; omega, fun x hx => by have := h3 x hx; have := ls _ this.1; omega, by omega, by omega, by omega⟩
end Go.Sim
/- A number or a text that was written is read back. Conditions: those that each theorem names. -/
set_option linter.unusedSimpArgs false
set_option linter.unusedVariables false
namespace Go.Sim
theorem rvGo_back (s : ByteArray) (a n : Nat) (hn : n ≤ 1000000000) : ∀ (m k i acc : Nat), (var m).length ≤ k → acc + m * 128 ^ i = n → (i = 0 ∨ m ≠ 0) → (∀ j (hj : j < (var m).length), a + i + j < s.size ∧ bN s (a + i + j) = (var m)[j]) →
    rvGo s a k i acc = some (n, a + i + (var m).length) := by
  intro m
  induction m using Nat.strongRecOn with
  | ind m ih =>
    intro k i acc hk he h0 hb
    by_cases hm : m ≤ 127
    · have hv : var m = [m] := by rw [var, if_pos hm]
      simp only [hv, List.length_singleton] at hk hb ⊢
      obtain ⟨k', rfl⟩ : ∃ k', k = k' + 1 := ⟨k - 1, by omega⟩
      have h1 := hb 0 (by omega)
      simp only [Nat.add_zero, List.getElem_cons_zero] at h1
      rw [rvGo_succ s a k' i acc h1.1, h1.2, if_neg (by omega), Nat.mod_eq_of_lt (by omega), he, if_neg (by omega)]
    · have hv : var m = (m % 128 + 128) :: var (m / 128) := by rw [var, if_neg hm]
      have hl : (var m).length = (var (m / 128)).length + 1 := by rw [hv]; rfl
      obtain ⟨k', rfl⟩ : ∃ k', k = k' + 1 := ⟨k - 1, by omega⟩
      have h1 := hb 0 (by omega)
      simp only [Nat.add_zero, hv, List.getElem_cons_zero] at h1
      rw [rvGo_succ s a k' i acc h1.1, h1.2, if_pos (by omega)]
      rw [ih (m / 128) (by omega) k' (i + 1) _ (by omega) ?_ (.inr (by omega)) ?_]
      · rw [hl]; congr 2; omega
      · rw [← he, Nat.pow_succ, Nat.add_assoc]
        congr 1
        have e1 : (m % 128 + 128) % 128 = m % 128 := by omega
        have e2 : m / 128 * (128 ^ i * 128) = (128 * (m / 128)) * 128 ^ i := by
          rw [Nat.mul_comm (128 ^ i) 128, ← Nat.mul_assoc, Nat.mul_comm (m / 128) 128]
        rw [e1, e2, ← Nat.add_mul, Nat.mod_add_div]
      · intro j hj
        have h2 := hb (j + 1) (by omega)
        simp only [hv, List.getElem_cons_succ] at h2
        rw [show a + (i + 1) + j = a + i + (j + 1) by omega]
        exact h2
theorem byteAt_mid (p q r : ByteArray) (j : Nat) (hj : j < q.size) : byteAt (p ++ q ++ r) (p.size + j) = byteAt q j := by
  have e1 : (p ++ q ++ r).data = p.data ++ q.data ++ r.data := by simp
  have hq : j < q.data.size := hj
  have hp : p.size = p.data.size := rfl
  unfold byteAt
  rw [e1, hp]
  simp only [Array.getD]
  have : p.data.size + j < (p.data ++ q.data ++ r.data).size := by simp; omega
  rw [dif_pos this, dif_pos hq]
  simp [Array.getElem_append, hj]
theorem mid_extract (p q r : ByteArray) : (p ++ q ++ r).extract p.size (p.size + q.size) = q := by
  have e1 : (p ++ q ++ r).data = p.data ++ q.data ++ r.data := by simp
  have hp : p.size = p.data.size := rfl
  have hq : q.size = q.data.size := rfl
  apply ByteArray.ext
  rw [ByteArray.data_extract, e1]
  apply Array.ext
  · simp only [Array.size_extract, Array.size_append]; omega
  · intro i h1 h2
    rw [Array.getElem_extract, Array.getElem_append_left (by simp only [Array.size_append]; omega), Array.getElem_append_right (by omega)]
    congr 1; omega
theorem vt_len (n : Nat) : (vt (n : Nat)).size = (var n).length := by simp [vt, ByteArray.size]
theorem byteAt_vt (n j : Nat) (hj : j < (var n).length) : bN (vt (n : Nat)) j = (var n)[j] := by
  have hl := vt_len n
  have e := (vt_eq n (vt (n : Nat)) 0 (var n).length (by omega)).1 (by
    rw [Nat.zero_add, ← hl, extract_all]; rfl)
  have h1 : (var n)[j]? = (bl (vt (n : Nat)) 0 (var n).length)[j]? := by rw [← e]
  rw [List.getElem?_eq_getElem hj] at h1
  simp only [bl, List.getElem?_map, List.getElem?_range hj, Option.map_some, Option.some.injEq, Nat.zero_add] at h1
  exact h1.symm
theorem rv_back (p q : ByteArray) (n : Nat) (hn : n ≤ 1000000000) : rv (p ++ vt (n : Nat) ++ q) (p.size : Nat) = some (n, p.size + (vt (n : Nat)).size) := by
  have h5 := vt_size (n := (n : Int)) (by omega)
  rw [vt_len] at h5 ⊢
  have hz : (p ++ vt (n : Nat) ++ q).size = p.size + (var n).length + q.size := by rw [ByteArray.size_append, ByteArray.size_append, vt_len]
  unfold rv
  rw [if_pos (by simp [inB, hz]; omega), Int.toNat_natCast]
  rw [rvGo_back _ _ n hn n 5 0 0 (by omega) (by simp) (.inl rfl) (fun j hj => ?_)]
  · rfl
  · refine ⟨by rw [hz]; omega, ?_⟩
    rw [bN, Nat.add_zero, byteAt_mid _ _ _ _ (by rw [vt_len]; exact hj), ← bN, byteAt_vt n j hj]
theorem rs_back (p t q : ByteArray) (ht : t.size ≤ 20000) : rs (p ++ short t ++ q) (p.size : Nat) = some (t.size, p.size + (vt (t.size : Nat)).size) ∧ sT (p ++ short t ++ q) (some (t.size, p.size + (vt (t.size : Nat)).size)) = t := by
  have e : p ++ short t ++ q = p ++ vt (t.size : Nat) ++ (t ++ q) := by rw [short, app_assoc, app_assoc]
  have hz : (p ++ short t ++ q).size = p.size + (vt (t.size : Nat)).size + t.size + q.size := by rw [e]; simp only [ByteArray.size_append]; omega
  constructor
  · unfold rs
    rw [show rv (p ++ short t ++ q) (p.size : Nat) = some (t.size, p.size + (vt (t.size : Nat)).size) from by rw [e]; exact rv_back p (t ++ q) t.size (by omega)]
    simp only
    rw [if_neg (by rw [hz]; omega)]
  · simp only [sT]
    rw [e, show p ++ vt (t.size : Nat) ++ (t ++ q) = (p ++ vt (t.size : Nat)) ++ t ++ q from by rw [app_assoc], ← ByteArray.size_append]
    exact mid_extract _ _ _
theorem foldl_cat : ∀ (l : List ByteArray) (a : ByteArray), l.foldl (· ++ ·) a = a ++ cat l
  | [], a => by simp [cat, app_empty]
  | x :: r, a => by
    have e : cat (x :: r) = r.foldl (· ++ ·) (⟨#[]⟩ ++ x) := rfl
    rw [List.foldl_cons, foldl_cat r (a ++ x), e, foldl_cat r (⟨#[]⟩ ++ x)]
    have : (⟨#[]⟩ : ByteArray) ++ x = x := by
      have h0 : (⟨#[]⟩ : ByteArray) = ByteArray.empty := rfl
      rw [h0]; simp
    rw [this, app_assoc]
theorem cat_app (a b : List ByteArray) : cat (a ++ b) = cat a ++ cat b := by
  show (a ++ b).foldl (· ++ ·) ⟨#[]⟩ = _
  rw [List.foldl_append, foldl_cat b]
  rfl
theorem cat_split {α : Type} (f : α → ByteArray) {l : List α} {i : Nat} (hi : i < l.length) : cat (l.map f) = cat ((l.take i).map f) ++ f l[i] ++ cat ((l.drop (i + 1)).map f) := by
  rw [← cat_snoc, ← cat_app]
  have e : l.map f = (l.take i).map f ++ [f l[i]] ++ (l.drop (i + 1)).map f := by
    rw [show l.map f = ((l.take i) ++ (l.drop i)).map f from by rw [List.take_append_drop], List.drop_eq_getElem_cons hi]
    simp only [List.map_append, List.map_cons, List.append_assoc, List.singleton_append]
  rw [← e]
end Go.Sim
/- Bytes put together are a text. Conditions: those that each theorem names. -/
set_option linter.unusedSimpArgs false
set_option linter.unusedVariables false
namespace Go.Sim
variable {P : Program} {h : AH}
theorem Gr.conv {n0 e : Nat} {v : Value} {bs : List Nat} {K : Value → AH → Prop} (w : Gr n0 h v 1 (VN bs)) (hu : P.underlying e = some (.int .u8)) (hk : K (.string ⟨(bs.map UInt8.ofNat).toArray⟩) h) :
    convT (some (.slice e)) (some .string) P h v K := by
  rcases w with ⟨c, rfl, e2⟩ | ⟨id, off, m, rfl, hb2, ow⟩
  · have : bs = [] := by
      have := congrArg List.length e2
      rw [vn_len] at this
      exact List.eq_nil_of_length_eq_zero (by simpa using this)
    subst this
    exact ⟨hu, hk⟩
  · rw [convT_bs]
    have er := ow.rdAll
    rw [Nat.mul_one] at er
    rw [er]
    simp only [Option.bind_some, VN, toBytes_nat, onS_some]
    exact ⟨hu, hk⟩
theorem bytes_size (bs : List Nat) : (⟨(bs.map UInt8.ofNat).toArray⟩ : ByteArray).size = bs.length := by simp [ByteArray.size]
theorem storeT_size {s : Store} (h : storeOk s = true) : (storeT s).size ≤ 10000000 := by
  have hl := storeOk_len h
  have h1 := varsT_size h s.vars.length (Nat.le_refl _)
  have h2 := cellsT_size h s.cells.length (Nat.le_refl _)
  have h3 := vt_size (n := (s.vars.length : Nat)) (by omega)
  have h4 := vt_size (n := (s.cells.length : Nat)) (by omega)
  have h5 := short_size s.out (by omega)
  simp only [storeT, ByteArray.size_append]
  omega
end Go.Sim
/- Patterns: how a text is read. Conditions: none. -/
set_option linter.unusedSimpArgs false
set_option linter.unusedVariables false
namespace Go.Sim
/-- A piece of a pattern. -/
structure Pc where
  op : Nat
  text : ByteArray
  kids : List Nat
abbrev PRes := Option (Nat × List Pc × Nat)
def isAt (s : ByteArray) (k c : Nat) : Bool := decide (k < s.size) && (byteAt s k).toNat == c
def special (c : Nat) : Bool := [42, 43, 63, 124, 40, 41, 91, 93, 46, 94, 36, 92].contains c
def brk (s : ByteArray) (k : Nat) : Nat := if k < s.size then if (byteAt s k).toNat = 93 then k else brk s (k + 1) else s.size
termination_by s.size - k
def pSet (s : ByteArray) (k : Nat) (out : List Pc) : PRes :=
  let b := if isAt s k 94 then k + 1 else k
  let e := brk s b
  if e = s.size ∨ e = b then none else some (e + 1, out ++ [⟨if isAt s k 94 then 4 else 3, s.extract b e, []⟩], out.length)
def pSingle (s : ByteArray) (k : Nat) (out : List Pc) : PRes :=
  let b := if isAt s k 92 then k + 1 else k
  if b < s.size ∧ isAt s k 92 = special (byteAt s b).toNat then some (b + 1, out ++ [⟨1, s.extract b (b + 1), []⟩], out.length) else none
def pClose (s : ByteArray) : PRes → PRes
  | none => none
  | some (k, o, r) => if isAt s k 41 then some (k + 1, o, r) else none
def pBase (alt : Nat → List Pc → PRes) (s : ByteArray) (k : Nat) (out : List Pc) : PRes :=
  if isAt s k 94 then some (k + 1, out ++ [⟨10, ⟨#[]⟩, []⟩], out.length)
  else if isAt s k 36 then some (k + 1, out ++ [⟨11, ⟨#[]⟩, []⟩], out.length)
  else if isAt s k 46 then some (k + 1, out ++ [⟨2, ⟨#[]⟩, []⟩], out.length)
  else if isAt s k 91 then pSet s (k + 1) out
  else if isAt s k 40 then pClose s (alt (k + 1) out)
  else pSingle s k out
def pStars (s : ByteArray) : Nat → Nat → List Pc → Nat → Nat × List Pc × Nat
  | 0, k, out, r => (k, out, r)
  | g + 1, k, out, r =>
    if isAt s k 42 then pStars s g (k + 1) (out ++ [⟨7, ⟨#[]⟩, [r]⟩]) out.length
    else if isAt s k 43 then pStars s g (k + 1) (out ++ [⟨8, ⟨#[]⟩, [r]⟩]) out.length
    else if isAt s k 63 then pStars s g (k + 1) (out ++ [⟨9, ⟨#[]⟩, [r]⟩]) out.length
    else (k, out, r)
def pThing (alt : Nat → List Pc → PRes) (s : ByteArray) (k : Nat) (out : List Pc) : PRes :=
  match pBase alt s k out with
  | none => none
  | some (k', o', r) => some (pStars s (s.size + 1) k' o' r)
def pStop (s : ByteArray) (k : Nat) : Bool := decide (s.size ≤ k) || isAt s k 124 || isAt s k 41
def pCats (thing : Nat → List Pc → PRes) (s : ByteArray) : Nat → Nat → List Pc → Nat → PRes
  | 0, _, _, _ => none
  | g + 1, k, out, r => if pStop s k then some (k, out, r) else match thing k out with
    | none => none
    | some (k', o', r') => pCats thing s g k' (o' ++ [⟨5, ⟨#[]⟩, [r, r']⟩]) o'.length
def pRow (thing : Nat → List Pc → PRes) (s : ByteArray) (k : Nat) (out : List Pc) : PRes :=
  if pStop s k then some (k, out ++ [⟨12, ⟨#[]⟩, []⟩], out.length) else match thing k out with
    | none => none
    | some (k', o', r) => pCats thing s (s.size + 1) k' o' r
def pBars (row : Nat → List Pc → PRes) (s : ByteArray) : Nat → Nat → List Pc → Nat → PRes
  | 0, _, _, _ => none
  | g + 1, k, out, r => if isAt s k 124 then match row (k + 1) out with
    | none => none
    | some (k', o', r') => pBars row s g k' (o' ++ [⟨6, ⟨#[]⟩, [r, r']⟩]) o'.length
    else some (k, out, r)
def pAlt (s : ByteArray) : Nat → Nat → List Pc → PRes
  | 0, _, _ => none
  | f + 1, k, out => match pRow (pThing (pAlt s f) s) s k out with
    | none => none
    | some (k', o', r) => pBars (pRow (pThing (pAlt s f) s) s) s (s.size + 1) k' o' r
def readP (s : ByteArray) : Option (List Pc) :=
  if 1 ≤ s.size ∧ s.size ≤ 24 then match pAlt s (s.size + 1) 0 [] with
    | none => none
    | some (k, o, _) => if k = s.size then some o else none
  else none

/-! ### what comes of it -/
def kidsN (op : Nat) : Nat := if op = 5 ∨ op = 6 then 2 else if op = 7 ∨ op = 8 ∨ op = 9 then 1 else 0
def textOk (op : Nat) (t : ByteArray) : Prop := if op = 1 then t.size = 1 else if op = 3 ∨ op = 4 then 1 ≤ t.size ∧ t.size ≤ 24 else t.size = 0
structure OkPc (x : Pc) (i : Nat) : Prop where
  op : 1 ≤ x.op ∧ x.op ≤ 12
  text : textOk x.op x.text
  kids : x.kids.length = kidsN x.op
  ahead : ∀ k ∈ x.kids, k < i
def Okp (out : List Pc) : Prop := ∀ i (hi : i < out.length), OkPc out[i] i
theorem Okp.snoc {out : List Pc} {x : Pc} (o : Okp out) (h : OkPc x out.length) : Okp (out ++ [x]) := fun i hi => by
  by_cases e : i < out.length
  · rw [List.getElem_append_left e]; exact o i e
  · have : i = out.length := by rw [List.length_append] at hi; simp at hi; omega
    subst this
    simpa using h
/-- A way on: how far, how many pieces (d less than may be), all right. -/
structure Gd (d : Nat) (s : ByteArray) (k : Nat) (out : List Pc) (k' : Nat) (o' : List Pc) (r : Nat) : Prop where
  le : k ≤ k'
  hi : k' ≤ s.size
  lt : 3 ≤ d → k < k'
  pot : o'.length + 2 * (s.size - k') + d ≤ out.length + 2 * (s.size - k) + 2
  mono : out.length ≤ o'.length
  ok : s.size ≤ 24 → Okp out → Okp o'
  last : r + 1 = o'.length
theorem Gd.one {s : ByteArray} {k k' : Nat} {out : List Pc} {x : Pc} (h1 : k < k') (h2 : k' ≤ s.size) (h3 : s.size ≤ 24 → OkPc x out.length) : Gd 3 s k out k' (out ++ [x]) out.length :=
  ⟨by omega, h2, fun _ => h1, by simp; omega, by simp, fun hz o => o.snoc (h3 hz), by simp⟩
theorem isAt_lt {s : ByteArray} {k c : Nat} (h : isAt s k c = true) : k < s.size := by
  simp only [isAt, Bool.and_eq_true, decide_eq_true_eq] at h; exact h.1
theorem brk_le (s : ByteArray) (k : Nat) : k ≤ s.size → k ≤ brk s k ∧ brk s k ≤ s.size := by
  intro h
  induction hn : s.size - k generalizing k with
  | zero => rw [brk, if_neg (by omega)]; omega
  | succ n ih =>
    rw [brk, if_pos (by omega)]
    split
    · omega
    · have := ih (k + 1) (by omega) (by omega); omega
theorem leaf_ok {op n : Nat} (h : op = 10 ∨ op = 11 ∨ op = 2 ∨ op = 12) : OkPc ⟨op, ⟨#[]⟩, []⟩ n := by
  refine ⟨?_, ?_, ?_, fun k hk => by cases hk⟩ <;> rcases h with rfl | rfl | rfl | rfl <;> first | rfl | (dsimp only; omega)
theorem pSet_gd {s : ByteArray} {k : Nat} {out : List Pc} {k' : Nat} {o' : List Pc} {r : Nat} (hk : k ≤ s.size) (e : pSet s k out = some (k', o', r)) : Gd 3 s k out k' o' r := by
  unfold pSet at e
  simp only at e
  generalize hb : (if isAt s k 94 = true then k + 1 else k) = b at e
  have hb1 : k ≤ b ∧ b ≤ s.size := by
    by_cases hc : isAt s k 94 = true
    · rw [if_pos hc] at hb; have := isAt_lt hc; omega
    · rw [if_neg hc] at hb; omega
  have hbr := brk_le s b hb1.2
  split at e
  · cases e
  · rename_i hn
    simp only [Option.some.injEq, Prod.mk.injEq] at e
    obtain ⟨rfl, rfl, rfl⟩ := e
    refine Gd.one (by omega) (by omega) (fun hz => ⟨?_, ?_, ?_, fun k hk => by cases hk⟩)
    · show 1 ≤ (if isAt s k 94 = true then 4 else 3) ∧ (if isAt s k 94 = true then 4 else 3) ≤ 12
      split <;> omega
    · show textOk (if isAt s k 94 = true then 4 else 3) _
      have hsz : (s.extract b (brk s b)).size = brk s b - b := by rw [ByteArray.size_extract]; omega
      unfold textOk
      rw [hsz]
      split <;> simp <;> omega
    · show 0 = kidsN (if isAt s k 94 = true then 4 else 3)
      split <;> rfl
theorem pSingle_gd {s : ByteArray} {k : Nat} {out : List Pc} {k' : Nat} {o' : List Pc} {r : Nat} (e : pSingle s k out = some (k', o', r)) : Gd 3 s k out k' o' r := by
  unfold pSingle at e
  simp only at e
  generalize hb : (if isAt s k 92 = true then k + 1 else k) = b at e
  have hb1 : k ≤ b := by split at hb <;> omega
  split at e
  · rename_i hn
    simp only [Option.some.injEq, Prod.mk.injEq] at e
    obtain ⟨rfl, rfl, rfl⟩ := e
    refine Gd.one (by omega) (by omega) (fun hz => ⟨⟨Nat.le_refl 1, (by decide : 1 ≤ 12)⟩, ?_, rfl, fun k hk => by cases hk⟩)
    show textOk 1 _
    have : (s.extract b (b + 1)).size = 1 := by rw [ByteArray.size_extract]; omega
    simp [textOk, this]
  · cases e
/-- What a reader of alternatives owes. -/
def GoodR (d : Nat) (s : ByteArray) (fn : Nat → List Pc → PRes) : Prop := ∀ k out k' o' r, k ≤ s.size → fn k out = some (k', o', r) → Gd d s k out k' o' r
theorem pBase_gd {s : ByteArray} {alt : Nat → List Pc → PRes} (ha : GoodR 1 s alt) : GoodR 3 s (pBase alt s) := by
  intro k out k' o' r hk e
  unfold pBase at e
  split at e
  · rename_i hc; have := isAt_lt hc
    simp only [Option.some.injEq, Prod.mk.injEq] at e; obtain ⟨rfl, rfl, rfl⟩ := e
    exact Gd.one (by omega) (by omega) (fun _ => leaf_ok (by omega))
  split at e
  · rename_i hc; have := isAt_lt hc
    simp only [Option.some.injEq, Prod.mk.injEq] at e; obtain ⟨rfl, rfl, rfl⟩ := e
    exact Gd.one (by omega) (by omega) (fun _ => leaf_ok (by omega))
  split at e
  · rename_i hc; have := isAt_lt hc
    simp only [Option.some.injEq, Prod.mk.injEq] at e; obtain ⟨rfl, rfl, rfl⟩ := e
    exact Gd.one (by omega) (by omega) (fun _ => leaf_ok (by omega))
  split at e
  · rename_i hc; have := isAt_lt hc
    have g := pSet_gd (by omega) e
    exact ⟨by have := g.le; omega, g.hi, fun _ => by have := g.le; omega, by have := g.pot; omega, g.mono, g.ok, g.last⟩
  split at e
  · rename_i hc; have := isAt_lt hc
    unfold pClose at e
    split at e
    · cases e
    · rename_i k1 o1 r1 he
      split at e
      · rename_i hc2; have := isAt_lt hc2
        simp only [Option.some.injEq, Prod.mk.injEq] at e; obtain ⟨rfl, rfl, rfl⟩ := e
        have g := ha (k + 1) out k1 o1 r1 (by omega) he
        exact ⟨by have := g.le; omega, by omega, fun _ => by have := g.le; omega, by have := g.pot; have := g.le; omega, g.mono, g.ok, g.last⟩
      · cases e
  · exact pSingle_gd e
theorem star_ok {op r n : Nat} (h : op = 7 ∨ op = 8 ∨ op = 9) (hr : r < n) : OkPc ⟨op, ⟨#[]⟩, [r]⟩ n := by
  refine ⟨?_, ?_, ?_, fun k hk => by simp at hk; omega⟩ <;> rcases h with rfl | rfl | rfl <;> first | rfl | (dsimp only; omega)
theorem two_ok {op r r' n : Nat} (h : op = 5 ∨ op = 6) (hr : r < n) (hr' : r' < n) : OkPc ⟨op, ⟨#[]⟩, [r, r']⟩ n := by
  refine ⟨?_, ?_, ?_, fun k hk => by simp at hk; omega⟩ <;> rcases h with rfl | rfl <;> first | rfl | (dsimp only; omega)
/-- One piece more, of what was read. -/
theorem Gd.more {d : Nat} {s : ByteArray} {k k1 k2 : Nat} {out o1 o2 : List Pc} {r1 : Nat} {x : Pc} {d2 : Nat} (g : Gd d s k out k1 o1 r1) (hd2 : d2 ≤ d)
    (h12 : k1 ≤ k2) (h2 : k2 ≤ s.size) (hp : o2.length + 1 + 2 * (s.size - k2) ≤ o1.length + 2 * (s.size - k1)) (ho : s.size ≤ 24 → Okp o1 → Okp o2) (hm : o1.length ≤ o2.length) (hx : OkPc x o2.length) : Gd d s k out k2 (o2 ++ [x]) o2.length :=
  ⟨by have := g.le; omega, h2, fun hd => by have := g.lt hd; omega, by have := g.pot; simp; omega, by have := g.mono; simp; omega, fun hz o => (ho hz (g.ok hz o)).snoc hx, by simp⟩
theorem pStars_gd {s : ByteArray} {k : Nat} {out : List Pc} : ∀ (g k1 : Nat) (o1 : List Pc) (r1 : Nat), Gd 3 s k out k1 o1 r1 → Gd 3 s k out (pStars s g k1 o1 r1).1 (pStars s g k1 o1 r1).2.1 (pStars s g k1 o1 r1).2.2
  | 0, k1, o1, r1, G => G
  | g + 1, k1, o1, r1, G => by
    unfold pStars
    split
    · rename_i hc; have := isAt_lt hc
      exact pStars_gd g _ _ _ (G.more (Nat.le_refl _) (by omega) (by omega) (by omega) (fun _ o => o) (by omega) (star_ok (by omega) (by have := G.last; omega)))
    split
    · rename_i hc; have := isAt_lt hc
      exact pStars_gd g _ _ _ (G.more (Nat.le_refl _) (by omega) (by omega) (by omega) (fun _ o => o) (by omega) (star_ok (by omega) (by have := G.last; omega)))
    split
    · rename_i hc; have := isAt_lt hc
      exact pStars_gd g _ _ _ (G.more (Nat.le_refl _) (by omega) (by omega) (by omega) (fun _ o => o) (by omega) (star_ok (by omega) (by have := G.last; omega)))
    · exact G
theorem pThing_gd {s : ByteArray} {alt : Nat → List Pc → PRes} (ha : GoodR 1 s alt) : GoodR 3 s (pThing alt s) := by
  intro k out k' o' r hk e
  unfold pThing at e
  split at e
  · cases e
  · rename_i k1 o1 r1 he
    have G := pStars_gd (s.size + 1) k1 o1 r1 (pBase_gd ha _ _ _ _ _ hk he)
    simp only [Option.some.injEq] at e
    rw [e] at G
    exact G
theorem pCats_gd {s : ByteArray} {thing : Nat → List Pc → PRes} (ht : GoodR 3 s thing) {k : Nat} {out : List Pc} : ∀ (g k1 : Nat) (o1 : List Pc) (r1 : Nat), Gd 3 s k out k1 o1 r1 → ∀ k' o' r, pCats thing s g k1 o1 r1 = some (k', o', r) → Gd 3 s k out k' o' r
  | 0, k1, o1, r1, G, k', o', r, e => by cases e
  | g + 1, k1, o1, r1, G, k', o', r, e => by
    unfold pCats at e
    split at e
    · simp only [Option.some.injEq, Prod.mk.injEq] at e; obtain ⟨rfl, rfl, rfl⟩ := e; exact G
    · split at e
      · cases e
      · rename_i k2 o2 r2 he
        have G2 := ht _ _ _ _ _ G.hi he
        have p2 := G2.pot
        have l2 := G2.lt (Nat.le_refl _)
        have h2 := G2.hi
        have r1' := G.last
        have r2' := G2.last
        have m2 := G2.mono
        exact pCats_gd ht g k2 _ _ (G.more (Nat.le_refl _) (by omega) h2 (by omega) (fun hz o => G2.ok hz o) m2 (two_ok (by omega) (by omega) (by omega))) k' o' r e
theorem pRow_gd {s : ByteArray} {thing : Nat → List Pc → PRes} (ht : GoodR 3 s thing) : GoodR 1 s (pRow thing s) := by
  intro k out k' o' r hk e
  unfold pRow at e
  split at e
  · simp only [Option.some.injEq, Prod.mk.injEq] at e; obtain ⟨rfl, rfl, rfl⟩ := e
    exact ⟨by omega, hk, fun h => by omega, by simp; omega, by simp, fun hz o => o.snoc (leaf_ok (by omega)), by simp⟩
  · split at e
    · cases e
    · rename_i k1 o1 r1 he
      have G := pCats_gd ht _ _ _ _ (ht _ _ _ _ _ hk he) _ _ _ e
      exact ⟨G.le, G.hi, fun h => by omega, by have := G.pot; omega, G.mono, G.ok, G.last⟩
theorem pBars_gd {s : ByteArray} {row : Nat → List Pc → PRes} (ht : GoodR 1 s row) {k : Nat} {out : List Pc} : ∀ (g k1 : Nat) (o1 : List Pc) (r1 : Nat), Gd 1 s k out k1 o1 r1 → ∀ k' o' r, pBars row s g k1 o1 r1 = some (k', o', r) → Gd 1 s k out k' o' r
  | 0, k1, o1, r1, G, k', o', r, e => by cases e
  | g + 1, k1, o1, r1, G, k', o', r, e => by
    unfold pBars at e
    split at e
    · rename_i hc
      have hc := isAt_lt hc
      split at e
      · cases e
      · rename_i k2 o2 r2 he
        have G2 := ht _ _ _ _ _ (by omega) he
        have p2 := G2.pot
        have l2 := G2.le
        have h2 := G2.hi
        have r1' := G.last
        have r2' := G2.last
        have m2 := G2.mono
        exact pBars_gd ht g k2 _ _ (G.more (Nat.le_refl _) (by omega) h2 (by omega) (fun hz o => G2.ok hz o) m2 (two_ok (by omega) (by omega) (by omega))) k' o' r e
    · simp only [Option.some.injEq, Prod.mk.injEq] at e; obtain ⟨rfl, rfl, rfl⟩ := e; exact G
theorem pAlt_gd (s : ByteArray) : ∀ f, GoodR 1 s (pAlt s f)
  | 0 => fun k out k' o' r hk e => by cases e
  | f + 1 => fun k out k' o' r hk e => by
    have hr := pRow_gd (pThing_gd (pAlt_gd s f))
    unfold pAlt at e
    split at e
    · cases e
    · rename_i k1 o1 r1 he
      exact pBars_gd hr _ _ _ _ (hr _ _ _ _ _ hk he) _ _ _ e
theorem readP_ok {s : ByteArray} {o : List Pc} (e : readP s = some o) : Okp o ∧ 1 ≤ o.length ∧ o.length ≤ 60 := by
  unfold readP at e
  split at e
  · rename_i hz
    split at e
    · cases e
    · rename_i k o1 r he
      split at e
      · simp only [Option.some.injEq] at e
        subst e
        have G := pAlt_gd s _ _ _ _ _ _ (Nat.zero_le _) he
        have h1 := G.last
        have h2 := G.pot
        refine ⟨G.ok hz.2 (fun i hi => by cases hi), by omega, by simp at h2; omega⟩
      · cases e
  · cases e
end Go.Sim
/- Patterns: readers in memory. Conditions: those that each theorem names. -/
set_option linter.unusedSimpArgs false
set_option linter.unusedVariables false
namespace Go.Sim
variable {P : Program} {h : AH}
def encNa (n : Nat) : List Value := [.int .i64 (n : Nat)]
theorem encI_len (n : Nat) : (encNa n).length = 1 := rfl
def encP (x : Pc × Value) : List Value := [.int .i64 (x.1.op : Nat), .string x.1.text, x.2]
theorem encP_len (x : Pc × Value) : (encP x).length = 3 := rfl
/-- Nothing below n was touched. -/
structure Fr (m : Nat) (h h' : AH) : Prop where
  n : h.n ≤ h'.n
  ob : ∀ i, i < m → h'.ob i = h.ob i
theorem Fr.refl (n : Nat) (h : AH) : Fr n h h := ⟨Nat.le_refl _, fun _ _ => rfl⟩
theorem Fr.trans {n : Nat} {a b c : AH} (x : Fr n a b) (y : Fr n b c) : Fr n a c := ⟨Nat.le_trans x.n y.n, fun i hi => (y.ob i hi).trans (x.ob i hi)⟩
theorem Fr.set {n p : Nat} {h h' : AH} (x : Fr n h h') (hp : n ≤ p) (o : AOb) : Fr n h (h'.set p o) := ⟨x.n, fun i hi => (set_ne o (by omega)).trans (x.ob i hi)⟩
theorem Fr.alloc {n : Nat} {h h' : AH} (x : Fr n h h') (hn : n ≤ h.n) (o : AOb) : Fr n h (h'.alloc o) := ⟨Nat.le_trans x.n (le_alloc o), fun i hi => (alloc_lt o (by have := x.n; omega)).trans (x.ob i hi)⟩
/-- Pieces, in a slice of the call's own. -/
structure Pcs (n0 p : Nat) (h : AH) (v : Value) (L : List (Pc × Value)) : Prop where
  gr : Gr n0 h v 3 (L.map encP).flatten
  kids : ∀ x ∈ L, RdV h x.2 1 encNa x.1.kids
  far : ∀ x ∈ L, ∀ i, atBlock x.2 i → n0 ≤ i ∧ i ≠ p ∧ ¬ atBlock v i
  vp : ∀ i, atBlock v i → i ≠ p
theorem Pcs.nil (n0 p : Nat) (h : AH) (c : Nat) : Pcs n0 p h (.slice none 0 c) [] := ⟨.inl ⟨c, rfl, rfl⟩, (fun x hx => by cases hx), (fun x hx => by cases hx), fun i e => False.elim e⟩
theorem Pcs.keep {n0 p : Nat} {h h' : AH} {v : Value} {L : List (Pc × Value)} (w : Pcs n0 p h v L) (hn : h.n ≤ h'.n) (e : ∀ i, i < h.n → i ≠ p → h'.ob i = h.ob i) : Pcs n0 p h' v L :=
  ⟨w.gr.keep hn (fun i hi => e i (w.gr.range hi).2 (w.vp i hi)), fun x hx => (w.kids x hx).keep hn (fun i hi => e i ((w.kids x hx).lt hi) (w.far x hx i hi).2.1), w.far, w.vp⟩
/-- What one more piece makes of the heap: v' is the slice, kv its kids. -/
structure Put (n0 p : Nat) (h h' : AH) (v v' kv : Value) (cs : List Value) (op : Nat) (text : ByteArray) (kids : List Nat) : Prop where
  n : h.n ≤ h'.n
  gr : Gr n0 h' v' 3 (cs ++ [.int .i64 (op : Nat), .string text, kv])
  new : ∀ i, atBlock v' i → h.n ≤ i
  kr : RdV h' kv 1 encNa kids
  kvn : ∀ i, atBlock kv i → n0 ≤ i ∧ i ≠ p ∧ ¬ atBlock v' i
  ob : ∀ i, i < h.n → i ≠ p → ¬ atBlock v i → h'.ob i = h.ob i
theorem Pcs.put {n0 p : Nat} {h h' : AH} {v v' kv : Value} {L : List (Pc × Value)} {op : Nat} {text : ByteArray} {kids : List Nat} (w : Pcs n0 p h v L) (hp : p < h.n) (q : Put n0 p h h' v v' kv (L.map encP).flatten op text kids) : Pcs n0 p h' v' (L ++ [(⟨op, text, kids⟩, kv)]) := by
  refine ⟨?_, fun x hx => ?_, fun x hx i hi => ?_, fun i hi => by have := q.new i hi; omega⟩
  · rw [flat_snoc]; exact q.gr
  · rcases List.mem_append.1 hx with hx | hx
    · exact (w.kids x hx).keep q.n (fun i hi => q.ob i ((w.kids x hx).lt hi) (w.far x hx i hi).2.1 (w.far x hx i hi).2.2)
    · obtain rfl : x = _ := by simpa using hx
      exact q.kr
  · rcases List.mem_append.1 hx with hx | hx
    · have a := w.far x hx i hi
      have b := (w.kids x hx).lt hi
      exact ⟨a.1, a.2.1, fun e => by have := q.new i e; omega⟩
    · obtain rfl : x = _ := by simpa using hx
      exact q.kvn i hi
/-- A reader that stands well, and one that is bad. C: its cells, from its place, whether it is bad, and its slice. -/
structure Rg (C : Nat → Bool → Value → List Value) (s : ByteArray) (n0 p : Nat) (h : AH) (k : Nat) (out : List Pc) : Prop where
  lt : p < h.n
  le : n0 ≤ p
  hi : k ≤ s.size
  ex : ∃ v L, h.ob p = .cells (C k false v) .solo p ∧ Pcs n0 p h v L ∧ L.map Prod.fst = out
structure Rb (C : Nat → Bool → Value → List Value) (s : ByteArray) (n0 p : Nat) (h : AH) (m : Nat) : Prop where
  lt : p < h.n
  le : n0 ≤ p
  ex : ∃ k v cs j, k ≤ s.size ∧ h.ob p = .cells (C k true v) .solo p ∧ Gr n0 h v 3 cs ∧ cs.length = j * 3 ∧ j ≤ m ∧ ∀ i, atBlock v i → i ≠ p
theorem Rb.mono {C : Nat → Bool → Value → List Value} {s : ByteArray} {n0 p m m' : Nat} {h : AH} (w : Rb C s n0 p h m) (hm : m ≤ m') : Rb C s n0 p h m' := by
  obtain ⟨k, v, cs, j, a, b, c, d, e, f⟩ := w.ex
  exact ⟨w.lt, w.le, k, v, cs, j, a, b, c, d, by omega, f⟩
/-- What a reader's call leaves. -/
def Ro (C : Nat → Bool → Value → List Value) (s : ByteArray) (n0 p : Nat) (h : AH) (m : Nat) (res : PRes) (v : Value) (h' : AH) : Prop :=
  Fr n0 h h' ∧ ((∃ k' o' r, res = some (k', o', r) ∧ v = .int .i64 (r : Nat) ∧ Rg C s n0 p h' k' o') ∨ (res = none ∧ (∃ r : Nat, v = .int .i64 (r : Nat)) ∧ Rb C s n0 p h' m))
end Go.Sim

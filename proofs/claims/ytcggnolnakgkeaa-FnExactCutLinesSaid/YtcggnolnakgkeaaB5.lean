/- Parts of the proof of the row: the ground, contracts of the functions that it reaches (C8, C4, C9, P21, SimTab, SimRow2, SimRow3). Conditions: those that each theorem names. -/
import Derived.Lib.ItoaNum
import Derived.Lib.TrimByte
import Derived.Sort.Grow
import Derived.Lib.LaidTab
import Derived.Shelf.Strconv.Itoa3
import Derived.Shelf.Strings.Trim
import Derived.Test.YtcggnolnakgkeaaB4
namespace Go.Proofs.Ytcggnolnakgkeaa
open Go Go.Sim Go.Proofs
set_option linter.unusedSimpArgs false
set_option linter.unusedVariables false
set_option maxRecDepth 100000
set_option maxHeartbeats 1000000
abbrev CPart := List Value × Value
/-- Slices of cells that are one's own: their slice, and each in a slice of its own. -/
structure PC (n0 : Nat) (h : AH) (v : Value) (L : List CPart) : Prop where
  out : Gr n0 h v 1 (L.map Prod.snd)
  inn : ∀ x ∈ L, ∃ id off, x.2 = .slice (some ⟨id, off, none⟩) x.1.length 1 ∧ n0 ≤ id ∧ Sim.Own h id off x.1.length 1 x.1
  apart : L.Pairwise fun x y => ∀ i, atBlock x.2 i → ¬ atBlock y.2 i
  ne : ∀ x ∈ L, ∀ i, atBlock x.2 i → ¬ atBlock v i
def PB (v : Value) (L : List CPart) (i : Nat) : Prop := atBlock v i ∨ ∃ x ∈ L, atBlock x.2 i
def cellsP (x : Part) : CPart := (x.1.map txV, x.2)
theorem Parts.pc {n0 : Nat} {h : AH} {v : Value} {L : List Part} (p : Parts n0 h v L) : PC n0 h v (L.map cellsP) := by
  refine ⟨by rw [List.map_map]; exact p.out, fun x hx => ?_, ?_, fun x hx => ?_⟩
  · obtain ⟨y, hy, rfl⟩ := List.mem_map.1 hx
    obtain ⟨id, off, e, b, o⟩ := p.inn y hy
    exact ⟨id, off, by simpa [cellsP] using e, b, by simpa [cellsP] using o⟩
  · exact List.pairwise_map.2 p.apart
  · obtain ⟨y, hy, rfl⟩ := List.mem_map.1 hx
    exact p.ne y hy
theorem PC.lt {n0 : Nat} {h : AH} {v : Value} {L : List CPart} (p : PC n0 h v L) {i : Nat} (e : PB v L i) : n0 ≤ i ∧ i < h.n := by
  rcases e with e | ⟨x, hx, e⟩
  · exact Gr.lt p.out e
  · obtain ⟨id, off, e1, b, o⟩ := p.inn x hx
    rw [e1] at e
    have e' : id = i := e
    subst e'
    exact ⟨b, o.lt⟩
theorem PC.live {n0 : Nat} {h : AH} {v : Value} {L : List CPart} (p : PC n0 h v L) {i : Nat} (e : PB v L i) : Sim.live h i := by
  rcases e with e | ⟨x, hx, e⟩
  · exact Gr.live p.out e
  · obtain ⟨id, off, e1, b, o⟩ := p.inn x hx
    rw [e1] at e
    have e' : id = i := e
    subst e'
    exact .inl o.line
theorem PC.keep {n0 : Nat} {h h' : AH} {v : Value} {L : List CPart} (p : PC n0 h v L) (hn : h.n ≤ h'.n) (e : ∀ i, PB v L i → h'.ob i = h.ob i) : PC n0 h' v L :=
  ⟨p.out.keep hn (fun i hi => e i (.inl hi)), fun x hx => by
    obtain ⟨id, off, e1, b, o⟩ := p.inn x hx
    exact ⟨id, off, e1, b, o.same (e id (.inr ⟨x, hx, by rw [e1]; rfl⟩)) hn⟩, p.apart, p.ne⟩
theorem PC.pre {n0 : Nat} {h h' : AH} {v : Value} {L : List CPart} (p : PC n0 h v L) (q : Pre h h') : PC n0 h' v L := p.keep q.n (fun i hi => q.ob i (p.lt hi).2)
theorem PC.upd {n0 : Nat} {h h' : AH} {v : Value} {A B : List CPart} {x : CPart} {cs : List Value} (p : PC n0 h v (A ++ x :: B)) (hn : h'.n = h.n) (hl : cs.length = x.1.length)
    (ho : ∀ id off, x.2 = .slice (some ⟨id, off, none⟩) x.1.length 1 → Sim.Own h' id off cs.length 1 cs) (hk : ∀ i, ¬ atBlock x.2 i → PB v (A ++ x :: B) i → h'.ob i = h.ob i) : PC n0 h' v (A ++ (cs, x.2) :: B) := by
  have hx : x ∈ A ++ x :: B := by simp
  have ap := p.apart
  rw [List.pairwise_append, List.pairwise_cons] at ap
  obtain ⟨apA, ⟨apx, apB⟩, apAB⟩ := ap
  refine ⟨?_, fun y hy => ?_, ?_, fun y hy => ?_⟩
  · have := p.out.keep (h' := h') (by omega) (fun i hi => hk i (fun e => p.ne x hx i e hi) (.inl hi))
    simpa using this
  · rcases List.mem_append.1 hy with hy | hy
    · have hy' : y ∈ A ++ x :: B := List.mem_append_left _ hy
      obtain ⟨id, off, e1, b, o⟩ := p.inn y hy'
      have hb : atBlock y.2 id := by rw [e1]; rfl
      exact ⟨id, off, e1, b, o.same (hk id (fun e => apAB y hy x (by simp) id hb e) (.inr ⟨y, hy', hb⟩)) (by omega)⟩
    · rcases List.mem_cons.1 hy with rfl | hy
      · obtain ⟨id, off, e1, b, o⟩ := p.inn x hx
        exact ⟨id, off, by rw [e1, hl], b, ho id off e1⟩
      · have hy' : y ∈ A ++ x :: B := by simp [hy]
        obtain ⟨id, off, e1, b, o⟩ := p.inn y hy'
        have hb : atBlock y.2 id := by rw [e1]; rfl
        exact ⟨id, off, e1, b, o.same (hk id (fun e => apx y hy id e hb) (.inr ⟨y, hy', hb⟩)) (by omega)⟩
  · rw [List.pairwise_append, List.pairwise_cons]
    refine ⟨apA, ⟨apx, apB⟩, fun a ha b hb => ?_⟩
    rcases List.mem_cons.1 hb with rfl | hb
    · exact apAB a ha x (by simp)
    · exact apAB a ha b (by simp [hb])
  · rcases List.mem_append.1 hy with hy | hy
    · exact p.ne y (List.mem_append_left _ hy)
    · rcases List.mem_cons.1 hy with rfl | hy
      · exact p.ne x hx
      · exact p.ne y (by simp [hy])
def lens (L : List CPart) : Nat := (L.map fun x => x.1.length).sum
theorem lens_snoc (A : List CPart) (x : CPart) : lens (A ++ [x]) = lens A + x.1.length := by simp [lens]
theorem lens_app (A B : List CPart) : lens (A ++ B) = lens A + lens B := by simp [lens]
def msL (k : Nat) : List CPart → List CPart
  | [] => []
  | x :: r => (marks fS k x.1.length, x.2) :: msL (k + x.1.length) r
theorem msL_app : ∀ (k : Nat) (A B : List CPart), msL k (A ++ B) = msL k A ++ msL (k + lens A) B
  | k, [], B => by simp [msL, lens]
  | k, x :: r, B => by
    rw [List.cons_append, msL, msL, List.cons_append, msL_app]
    congr 3
    simp [lens]; omega
theorem msL_snd : ∀ (k : Nat) (A : List CPart), (msL k A).map Prod.snd = A.map Prod.snd
  | _, [] => rfl
  | k, x :: r => by rw [msL, List.map_cons, List.map_cons, msL_snd]
theorem msL_len (k : Nat) (A : List CPart) : (msL k A).length = A.length := by have := congrArg List.length (msL_snd k A); simpa using this
theorem PB.of {v : Value} {L M : List CPart} (e : L.map Prod.snd = M.map Prod.snd) {i : Nat} (p : PB v L i) : PB v M i := by
  rcases p with p | ⟨x, hx, p⟩
  · exact .inl p
  · have : x.2 ∈ M.map Prod.snd := by rw [← e]; exact List.mem_map_of_mem hx
    obtain ⟨y, hy, e2⟩ := List.mem_map.1 this
    exact .inr ⟨y, hy, by rw [e2]; exact p⟩
theorem flat_c (L : List CPart) : (L.map fun x : CPart => [x.2]).flatten = L.map Prod.snd := by
  induction L with
  | nil => rfl
  | cons x r ih => rw [List.map_cons, List.flatten_cons, ih]; rfl
theorem markOne (n0 : Nat) (v : Value) (A B : List CPart) (x : CPart) (k : Nat) (h : AH) (p : PC n0 h v (A ++ x :: B)) (h0 : 0 < k) (hk : k + x.1.length * 1 < 4000000000000) (hn : x.1.length < 274877906944) :
    CC Try.prog 14 [x.2, .int .i64 (k : Nat)] h (fun r h' => r = .int .i64 ((k + x.1.length : Nat) : Int) ∧ PC n0 h' v (A ++ (marks fS k x.1.length, x.2) :: B) ∧ h'.n = h.n ∧ ∀ j, ¬ atBlock x.2 j → live h j → h'.ob j = h.ob j) := by
  refine CC.withFit (fun ft => ?_)
  obtain ⟨id, off, e, b, o⟩ := p.inn x (by simp)
  rw [e]
  refine (markStringS_o id off x.1.length x.1 k h o h0 hk hn).mono (fun r h' ⟨e1, o1, w1⟩ => ?_)
  have wv := w1.toV (m := x.1.length) (c := 1) ft o
  rw [← e] at wv
  refine ⟨by rw [e1, Nat.mul_one], ?_, w1.n, fun j hj hl => wv.ob j (by rw [e]; exact hj) hl⟩
  rw [← e]
  refine p.upd w1.n (marks_length _ _ _) (fun id' off' e' => ?_) (fun i hi hp => wv.ob i hi (p.live hp))
  rw [e] at e'
  simp only [Value.slice.injEq, Option.some.injEq, Addr.mk.injEq] at e'
  obtain ⟨⟨rfl, rfl, _⟩, _⟩ := e'
  rw [marks_length]
  rw [Nat.mul_one] at o1
  exact o1
theorem markStringSS_c (n0 : Nat) (v : Value) (L : List CPart) (k : Nat) (h : AH) (p : PC n0 h v L) (h0 : 0 < k) (hk : k + lens L < 270000000000) (hn : L.length ≤ 1048576) :
    CC Try.prog 15 [v, .int .i64 (k : Nat)] h (fun r h' => r = .int .i64 ((k + lens L : Nat) : Int) ∧ PC n0 h' v (msL k L) ∧ h'.n = h.n ∧ ∀ j, ¬ PB v L j → live h j → h'.ob j = h.ob j) := by
  have hr := Gr.rdv (k := 1) (enc := fun x : CPart => [x.2]) (l := L) (n0 := n0) (h := h) (v := v) (by rw [flat_c]; exact p.out) (by omega) (fun _ => rfl)
  obtain ⟨A, ca, rfl, _⟩ := hr.rde (fun _ => rfl)
  refine CC.ofN Try.func15 Try.ntmps15 Try.results15 rfl (by decide) (by kernel_rfl) ?_
  simp (maxSteps := 1000000) -implicitDefEqProofs only [push_cast, seval]
  refine WC.loopA (by kernel_rfl) [1, 5] [6, 7, 8, 9, 10, 11, 12, 13, 14, 15, 16, 17] (fun a : Nat × Nat => [.int .i64 (a.2 : Nat), .int .i64 (a.1 : Nat)]) (fun a h' => (a.1 ≤ L.length ∧ a.2 = k + lens (L.take a.1)) ∧ PC n0 h' (.slice A L.length ca) (msL k (L.take a.1) ++ L.drop a.1) ∧ h'.n = h.n ∧ ∀ j, ¬ PB (.slice A L.length ca) L j → live h j → h'.ob j = h.ob j) (fun a => L.length - a.1) (0, k) (by kernel_rfl) ⟨⟨Nat.zero_le _, by simp [lens]⟩, by simpa [msL] using p, rfl, fun _ _ _ => rfl⟩ ?_
  intro a g h1 hJ
  have hi := hJ.1.1
  have hK := hJ.1.2
  have q := hJ.2.1
  have n1 := hJ.2.2.1
  have f1 := hJ.2.2.2
  clear hJ
  simp (maxSteps := 1000000) -implicitDefEqProofs only [push_cast, seval]
  with_reducible refine bcase_d (fun hb => ?_) (fun hb => ?_)
  · have hi' : a.1 < L.length := by omega
    have hd := List.drop_eq_getElem_cons hi'
    have ht : L.take (a.1 + 1) = L.take a.1 ++ [L[a.1]] := by rw [List.take_add_one, List.getElem?_eq_getElem hi']; rfl
    have hsum : lens (L.take (a.1 + 1)) ≤ lens L := by have := lens_app (L.take (a.1 + 1)) (L.drop (a.1 + 1)); rw [List.take_append_drop] at this; omega
    have hsn : lens (L.take (a.1 + 1)) = lens (L.take a.1) + L[a.1].1.length := by rw [ht, lens_snoc]
    have hsnd : (msL k (L.take a.1) ++ L.drop a.1).map Prod.snd = L.map Prod.snd := by rw [List.map_append, msL_snd, ← List.map_append, List.take_append_drop]
    have hr1 := Gr.rdv (k := 1) (enc := fun x : CPart => [x.2]) (l := L) (n0 := n0) (h := h1) (v := .slice A L.length ca) (by rw [flat_c, ← hsnd]; exact q.out) (by omega) (fun _ => rfl)
    have hel := hr1.el (fun _ => rfl) hi'
    with_reducible refine Exists.elim hel (fun id hel => ?_)
    with_reducible refine Exists.elim hel (fun off hel => ?_)
    with_reducible refine Exists.elim hel (fun c2 hel => ?_)
    have eA := hel.1
    have l1 := hel.2.1
    have hrd := hel.2.2
    clear hel
    have eA2 : A = some ⟨id, off, none⟩ := by injection eA
    subst eA2
    rw [Nat.mul_one] at hrd
    have r0 := rd_1 hrd
    rw [hd] at q
    simp (maxSteps := 1000000) -implicitDefEqProofs only [push_cast, seval, hrd, r0, l1, Nat.mul_one]
    repeat (with_reducible refine And.intro ?_ ?_; · (first | omega | decide))
    with_reducible refine CC.mono (markOne n0 _ (msL k (L.take a.1)) (L.drop (a.1 + 1)) L[a.1] a.2 h1 q (by omega) (by omega) (by omega)) (fun r h2 hv => ?_)
    have e1 := hv.1
    have q2 := hv.2.1
    have n2 := hv.2.2.1
    have f2 := hv.2.2.2
    clear hv
    subst e1
    simp (maxSteps := 1000000) -implicitDefEqProofs only [push_cast, seval]
    rw [wrapSucc (by omega)]
    refine ⟨(a.1 + 1, a.2 + L[a.1].1.length), by kernel_rfl, ⟨⟨by show a.1 + 1 ≤ L.length; omega, by show a.2 + L[a.1].1.length = k + lens (L.take (a.1 + 1)); omega⟩, ?_, by omega, fun j hj hl => ?_⟩, by show L.length - (a.1 + 1) < L.length - a.1; omega⟩
    · show PC n0 h2 _ (msL k (L.take (a.1 + 1)) ++ L.drop (a.1 + 1))
      rw [ht, msL_app, List.append_assoc, ← hK]
      exact q2
    · have e2 := f1 j hj hl
      rw [← e2]
      exact f2 j (fun e => hj (.inr ⟨L[a.1], List.getElem_mem hi', e⟩)) (live.of hl e2)
  · have e : a.1 = L.length := by omega
    rw [e, List.take_length] at hK
    rw [e, List.take_length, List.drop_length, List.append_nil] at q
    simp (maxSteps := 1000000) -implicitDefEqProofs only [push_cast, seval]
    exact ⟨by rw [hK]; push_cast; rfl, q, n1, f1⟩
theorem heldStringSS_c (n0 : Nat) (v : Value) (L : List CPart) (k : Nat) (h : AH) (p : PC n0 h v (msL k L)) (h0 : 0 < k) (hk : k + lens L < 270000000000) (hn : L.length ≤ 1048576) :
    CD Try.prog 16 [v, .int .i64 (k : Nat)] h (.int .i64 ((k + lens L : Nat) : Int)) h := by
  refine CD.quiet ?_ (low_int _ _ _)
  have hr := Gr.rdv (k := 1) (enc := fun x : CPart => [x.2]) (l := L) (n0 := n0) (h := h) (v := v) (by rw [flat_c, ← msL_snd k]; exact p.out) (by omega) (fun _ => rfl)
  obtain ⟨A, ca, rfl, _⟩ := hr.rde (fun _ => rfl)
  refine CC.ofN Try.func16 Try.ntmps16 Try.results16 rfl (by decide) (by kernel_rfl) ?_
  simp (maxSteps := 1000000) -implicitDefEqProofs only [push_cast, seval]
  refine WC.loopA (by kernel_rfl) [1, 5] [4, 6, 7, 8, 9, 10, 11, 12, 13, 14, 15, 16, 17, 18, 19] (fun a : Nat × Nat => [.int .i64 (a.2 : Nat), .int .i64 (a.1 : Nat)]) (fun a h' => (a.1 ≤ L.length ∧ a.2 = k + lens (L.take a.1)) ∧ Pre h h') (fun a => L.length - a.1) (0, k) (by kernel_rfl) ⟨⟨Nat.zero_le _, by simp [lens]⟩, Pre.refl _⟩ ?_
  intro a g h1 hJ
  have hi := hJ.1.1
  have hK := hJ.1.2
  have hp := hJ.2
  clear hJ
  have q := p.pre hp
  simp (maxSteps := 1000000) -implicitDefEqProofs only [push_cast, seval]
  with_reducible refine bcase_d (fun hb => ?_) (fun hb => ?_)
  · have hi' : a.1 < L.length := by omega
    have hd := List.drop_eq_getElem_cons hi'
    have ht : L.take (a.1 + 1) = L.take a.1 ++ [L[a.1]] := by rw [List.take_add_one, List.getElem?_eq_getElem hi']; rfl
    have hsum : lens (L.take (a.1 + 1)) ≤ lens L := by have := lens_app (L.take (a.1 + 1)) (L.drop (a.1 + 1)); rw [List.take_append_drop] at this; omega
    have hsn : lens (L.take (a.1 + 1)) = lens (L.take a.1) + L[a.1].1.length := by rw [ht, lens_snoc]
    have hr1 := hr.pre hp
    have hel := hr1.el (fun _ => rfl) hi'
    with_reducible refine Exists.elim hel (fun id hel => ?_)
    with_reducible refine Exists.elim hel (fun off hel => ?_)
    with_reducible refine Exists.elim hel (fun c2 hel => ?_)
    have eA := hel.1
    have l1 := hel.2.1
    have hrd := hel.2.2
    clear hel
    have eA2 : A = some ⟨id, off, none⟩ := by injection eA
    subst eA2
    rw [Nat.mul_one] at hrd
    have r0 := rd_1 hrd
    have hsp : msL k L = msL k (L.take a.1) ++ (marks fS a.2 L[a.1].1.length, L[a.1].2) :: msL (a.2 + L[a.1].1.length) (L.drop (a.1 + 1)) := by
      rw [hK, ← msL, ← hd, ← msL_app, List.take_append_drop]
    have hmem : (marks fS a.2 L[a.1].1.length, L[a.1].2) ∈ msL k L := by rw [hsp]; simp
    have hin := q.inn _ hmem
    simp only [marks_length] at hin
    with_reducible refine Exists.elim hin (fun i2 hin => ?_)
    with_reducible refine Exists.elim hin (fun off2 hin => ?_)
    have e2 := hin.1
    have o2 := hin.2.2
    clear hin
    simp (maxSteps := 1000000) -implicitDefEqProofs only [push_cast, seval, hrd, r0, l1, Nat.mul_one]
    repeat (with_reducible refine And.intro ?_ ?_; · (first | omega | decide))
    rw [e2]
    with_reducible refine CD.to (heldStringS_o i2 off2 L[a.1].1.length 1 a.2 h1 (by rw [Nat.mul_one]; exact o2) (by omega) (by omega) (by omega)) ?_
    simp (maxSteps := 1000000) -implicitDefEqProofs only [push_cast, seval]
    with_reducible refine bcase_d (fun hb2 => ?_) (fun hb2 => ?_)
    · exfalso; omega
    simp (maxSteps := 1000000) -implicitDefEqProofs only [push_cast, seval]
    rw [wrapSucc (by omega)]
    exact ⟨(a.1 + 1, a.2 + L[a.1].1.length * 1), by kernel_rfl, ⟨⟨by show a.1 + 1 ≤ L.length; omega, by show a.2 + L[a.1].1.length * 1 = k + lens (L.take (a.1 + 1)); omega⟩, hp⟩, by show L.length - (a.1 + 1) < L.length - a.1; omega⟩
  · have e : a.1 = L.length := by omega
    rw [e, List.take_length] at hK
    simp (maxSteps := 1000000) -implicitDefEqProofs only [push_cast, seval]
    exact ⟨by rw [hK]; push_cast; rfl, hp.keep⟩
end Go.Proofs.Ytcggnolnakgkeaa
namespace Go.Proofs.Ytcggnolnakgkeaa
open Go Go.Sim Go.Proofs
set_option linter.unusedSimpArgs false
set_option linter.unusedVariables false
set_option maxRecDepth 100000
set_option maxHeartbeats 1000000
theorem CutLines_s (n : Int) (l : List ByteArray) (A : Option Addr) (h : AH) (r : Lns h A l) (hl : l.length ≤ 1048576) (hn : n ≤ 9223372036854775807) :
    CC Try.prog 10 [.slice A l.length 1, .int .i64 n] h (fun v h' => ∃ L, Parts h.n h' v L ∧ L.map Prod.fst = cutL n l ∧ Pre h h') := by
  have hN := partN_pos n l.length
  have hq1 : n < 1 → 0 < l.length → (l.length : Int) = (partN n l.length : Nat) := fun e e2 => by unfold partN; rw [if_pos e]; omega
  have hq2 : ¬ n < 1 → n = (partN n l.length : Nat) := fun e => by unfold partN; rw [if_neg e]; omega
  have hcl : cutL n l = cks (partN n l.length) l (nck (partN n l.length) l.length) := rfl
  generalize partN n l.length = N at *
  have hlt := fun k => lt_nck (N := N) (len := l.length) (k := k) hN
  generalize nck N l.length = m at *
  refine CC.ofN Try.func10 Try.ntmps10 Try.results10 rfl (by decide) (by kernel_rfl) ?_
  simp (maxSteps := 1000000) -implicitDefEqProofs only [push_cast, seval]
  with_reducible refine bcase_d (fun hb => ?_) (fun hb => ?_)
  · have hq : 0 < l.length → ((l.length : Int)) = ((N : Nat) : Int) := hq1 hb
    simp (maxSteps := 1000000) -implicitDefEqProofs only [push_cast, seval]
    refine WC.loopA (by kernel_rfl) [5, 6] [7, 13, 14, 15, 16, 17, 18, 19, 20, 21, 22, 23, 24, 25, 26, 27, 28, 29, 30, 31, 32, 33, 34, 35, 36, 37] (fun a : Nat × Value × Nat => [a.2.1, .int .i64 (a.2.2 : Nat)]) (fun a h' => (a.1 ≤ m ∧ a.2.2 = min (a.1 * N) l.length) ∧ (∃ L, Parts h.n h' a.2.1 L ∧ L.map Prod.fst = cks N l a.1) ∧ Pre h h') (fun a => l.length - a.2.2) (0, _, 0) (by kernel_rfl) ⟨⟨Nat.zero_le _, by simp⟩, ⟨[], Parts.nil (Gr.new (Nat.le_refl _) [] 0 1 rfl), by simp [cks_zero]⟩, (Pre.refl _).alloc _⟩ ?_
    intro a g h1 hJ
    have hk := hJ.1.1
    have ha := hJ.1.2
    have hp := hJ.2.1
    have hh := hJ.2.2
    clear hJ
    with_reducible refine Exists.elim hp (fun L hL => ?_)
    have hL1 := hL.1
    have hL2 := hL.2
    clear hp hL
    simp (maxSteps := 1000000) -implicitDefEqProofs only [push_cast, seval]
    with_reducible refine bcase_d (fun hb2 => ?_) (fun hb2 => ?_)
    · have hpos : 0 < l.length := by omega
      have hNq := hq hpos
      have hs : (a.1 + 1) * N = a.1 * N + N := Nat.succ_mul _ _
      have hkm : a.1 < m := (hlt _).2 (by omega)
      generalize hKN : a.1 * N = KN at *
      have hat : a.2.2 = KN := by omega
      have w1 : IntKind.i64.wrap ((l.length : Int) - (a.2.2 : Int)) = (l.length : Int) - (a.2.2 : Int) := by rw [w64 (by omega) (by omega)]
      with_reducible refine Exists.elim (Lns.at r hpos) (fun id hr => ?_)
      with_reducible refine Exists.elim hr (fun off hr => ?_)
      have eA := hr.1
      have hrd := hr.2.1
      have hid := hr.2.2
      clear hr
      subst eA
      have hid1 : id < h1.n := Nat.lt_of_lt_of_le hid hh.n
      have hrd1 := (hh.rd hid _ _).trans hrd
      simp (maxSteps := 1000000) -implicitDefEqProofs only [push_cast, seval, w1]
      with_reducible refine bcase_d (fun hb3 => ?_) (fun hb3 => ?_)
      · try rw [w1] at hb3
        with_reducible refine nameN (a.2.2 + N) (fun E hE => ?_)
        have w2 : IntKind.i64.wrap ((a.2.2 : Int) + ((l.length : Int))) = (E : Nat) := by rw [w64 (by omega) (by omega)]; omega
        have hE1 : (E) = min ((a.1 + 1) * N) l.length := by omega
        have hE2 : a.2.2 < (E) := by omega
        have hE3 : (E) ≤ l.length := by omega
        have hck : ck N l a.1 = (l.drop a.2.2).take ((E) - a.2.2) := by
          unfold ck
          rw [hKN, ← hat]
          apply List.ext_getElem?
          intro i
          rw [List.getElem?_take, List.getElem?_take]
          by_cases e1 : i < N
          · by_cases e2 : i < (E) - a.2.2
            · rw [if_pos e1, if_pos e2]
            · rw [if_pos e1, if_neg e2, List.getElem?_drop, List.getElem?_eq_none (by omega)]
          · rw [if_neg e1, if_neg (by omega)]
        have hcl2 : (ck N l a.1).length = (E) - a.2.2 := by rw [hck, List.length_take, List.length_drop]; omega
        simp (maxSteps := 1000000) -implicitDefEqProofs only [push_cast, seval, w1, w2]
        have hpr : RdV h1 (.slice (some ⟨id, off + a.2.2 * 1, none⟩) ((E) - a.2.2) 1) 1 encTx (ck N l a.1) := by rw [Nat.mul_one, hck]; exact part_rdv hrd1 hid1 (by omega)
        refine And.intro (by omega) (And.intro (by omega) (And.intro (by omega) ?_))
        have hLl : L.length = a.1 := by have := congrArg List.length hL2; rw [List.length_map, cks_len] at this; exact this
        have hal : a.1 ≤ a.1 * N := Nat.le_mul_of_pos_right _ hN
        refine app_copy si24 (by decide) (by decide) (notInt_sl und24) (by (try simp (maxSteps := 1000000) -implicitDefEqProofs only [push_cast, seval, rdOb]); try rfl) (by simp only [alloc_n]; omega) (hpr.pre ((Pre.refl _).alloc _)) (fun _ => rfl) (by omega) (fun h2 a2 n2 f2 => ?_)
        rw [flat_tx] at a2
        simp only [alloc_n] at a2 n2 f2
        have hp2 : Pre h1 h2 := ⟨by omega, fun i hi => (f2 i (by omega) (by omega)).trans (alloc_lt _ hi)⟩
        simp (maxSteps := 1000000) -implicitDefEqProofs only [push_cast, seval]
        refine Gr.app1 (h0 := h) si27 (by decide) (by decide) (notInt_sl und27) (hL1.pre hp2).out (hh.trans hp2) rfl (by rw [List.length_map, hLl]; omega) (by omega) (fun h3 g3 o3 p3 n3 f3 => ?_)
        simp (maxSteps := 1000000) -implicitDefEqProofs only [push_cast, seval]
        refine ⟨(a.1 + 1, _, (E)), by kernel_rfl, ⟨⟨by show a.1 + 1 ≤ m; omega, hE1⟩, ⟨L ++ [(ck N l a.1, _)], hL1.snoc hp2 (by omega) (by have := hh.n; omega) a2 g3 (by omega) (by omega) f3, by rw [List.map_append, hL2, cks_succ]; rfl⟩, p3⟩, by show l.length - (E) < l.length - a.2.2; omega⟩
      · try rw [w1] at hb3
        have w2 : True := trivial
        have hE1 : (l.length) = min ((a.1 + 1) * N) l.length := by omega
        have hE2 : a.2.2 < (l.length) := by omega
        have hE3 : (l.length) ≤ l.length := by omega
        have hck : ck N l a.1 = (l.drop a.2.2).take ((l.length) - a.2.2) := by
          unfold ck
          rw [hKN, ← hat]
          apply List.ext_getElem?
          intro i
          rw [List.getElem?_take, List.getElem?_take]
          by_cases e1 : i < N
          · by_cases e2 : i < (l.length) - a.2.2
            · rw [if_pos e1, if_pos e2]
            · rw [if_pos e1, if_neg e2, List.getElem?_drop, List.getElem?_eq_none (by omega)]
          · rw [if_neg e1, if_neg (by omega)]
        have hcl2 : (ck N l a.1).length = (l.length) - a.2.2 := by rw [hck, List.length_take, List.length_drop]; omega
        simp (maxSteps := 1000000) -implicitDefEqProofs only [push_cast, seval, w1, w2]
        have hpr : RdV h1 (.slice (some ⟨id, off + a.2.2 * 1, none⟩) ((l.length) - a.2.2) 1) 1 encTx (ck N l a.1) := by rw [Nat.mul_one, hck]; exact part_rdv hrd1 hid1 (by omega)
        refine And.intro (by omega) (And.intro (by omega) (And.intro (by omega) ?_))
        have hLl : L.length = a.1 := by have := congrArg List.length hL2; rw [List.length_map, cks_len] at this; exact this
        have hal : a.1 ≤ a.1 * N := Nat.le_mul_of_pos_right _ hN
        refine app_copy si24 (by decide) (by decide) (notInt_sl und24) (by (try simp (maxSteps := 1000000) -implicitDefEqProofs only [push_cast, seval, rdOb]); try rfl) (by simp only [alloc_n]; omega) (hpr.pre ((Pre.refl _).alloc _)) (fun _ => rfl) (by omega) (fun h2 a2 n2 f2 => ?_)
        rw [flat_tx] at a2
        simp only [alloc_n] at a2 n2 f2
        have hp2 : Pre h1 h2 := ⟨by omega, fun i hi => (f2 i (by omega) (by omega)).trans (alloc_lt _ hi)⟩
        simp (maxSteps := 1000000) -implicitDefEqProofs only [push_cast, seval]
        refine Gr.app1 (h0 := h) si27 (by decide) (by decide) (notInt_sl und27) (hL1.pre hp2).out (hh.trans hp2) rfl (by rw [List.length_map, hLl]; omega) (by omega) (fun h3 g3 o3 p3 n3 f3 => ?_)
        simp (maxSteps := 1000000) -implicitDefEqProofs only [push_cast, seval]
        refine ⟨(a.1 + 1, _, (l.length)), by kernel_rfl, ⟨⟨by show a.1 + 1 ≤ m; omega, hE1⟩, ⟨L ++ [(ck N l a.1, _)], hL1.snoc hp2 (by omega) (by have := hh.n; omega) a2 g3 (by omega) (by omega) f3, by rw [List.map_append, hL2, cks_succ]; rfl⟩, p3⟩, by show l.length - (l.length) < l.length - a.2.2; omega⟩
    · have hn1 : ¬ a.1 < m := fun e => by have := (hlt _).1 e; omega
      have em : a.1 = m := by omega
      rw [em, ← hcl] at hL2
      simp (maxSteps := 1000000) -implicitDefEqProofs only [push_cast, seval]
      exact ⟨L, hL1, hL2, hh⟩
  · have hq : 0 < l.length → (n) = ((N : Nat) : Int) := (fun _ => hq2 hb)
    simp (maxSteps := 1000000) -implicitDefEqProofs only [push_cast, seval]
    refine WC.loopA (by kernel_rfl) [5, 6] [7, 13, 14, 15, 16, 17, 18, 19, 20, 21, 22, 23, 24, 25, 26, 27, 28, 29, 30, 31, 32, 33, 34, 35, 36, 37] (fun a : Nat × Value × Nat => [a.2.1, .int .i64 (a.2.2 : Nat)]) (fun a h' => (a.1 ≤ m ∧ a.2.2 = min (a.1 * N) l.length) ∧ (∃ L, Parts h.n h' a.2.1 L ∧ L.map Prod.fst = cks N l a.1) ∧ Pre h h') (fun a => l.length - a.2.2) (0, _, 0) (by kernel_rfl) ⟨⟨Nat.zero_le _, by simp⟩, ⟨[], Parts.nil (Gr.new (Nat.le_refl _) [] 0 1 rfl), by simp [cks_zero]⟩, (Pre.refl _).alloc _⟩ ?_
    intro a g h1 hJ
    have hk := hJ.1.1
    have ha := hJ.1.2
    have hp := hJ.2.1
    have hh := hJ.2.2
    clear hJ
    with_reducible refine Exists.elim hp (fun L hL => ?_)
    have hL1 := hL.1
    have hL2 := hL.2
    clear hp hL
    simp (maxSteps := 1000000) -implicitDefEqProofs only [push_cast, seval]
    with_reducible refine bcase_d (fun hb2 => ?_) (fun hb2 => ?_)
    · have hpos : 0 < l.length := by omega
      have hNq := hq hpos
      have hs : (a.1 + 1) * N = a.1 * N + N := Nat.succ_mul _ _
      have hkm : a.1 < m := (hlt _).2 (by omega)
      generalize hKN : a.1 * N = KN at *
      have hat : a.2.2 = KN := by omega
      have w1 : IntKind.i64.wrap ((l.length : Int) - (a.2.2 : Int)) = (l.length : Int) - (a.2.2 : Int) := by rw [w64 (by omega) (by omega)]
      with_reducible refine Exists.elim (Lns.at r hpos) (fun id hr => ?_)
      with_reducible refine Exists.elim hr (fun off hr => ?_)
      have eA := hr.1
      have hrd := hr.2.1
      have hid := hr.2.2
      clear hr
      subst eA
      have hid1 : id < h1.n := Nat.lt_of_lt_of_le hid hh.n
      have hrd1 := (hh.rd hid _ _).trans hrd
      simp (maxSteps := 1000000) -implicitDefEqProofs only [push_cast, seval, w1]
      with_reducible refine bcase_d (fun hb3 => ?_) (fun hb3 => ?_)
      · try rw [w1] at hb3
        with_reducible refine nameN (a.2.2 + N) (fun E hE => ?_)
        have w2 : IntKind.i64.wrap ((a.2.2 : Int) + (n)) = (E : Nat) := by rw [w64 (by omega) (by omega)]; omega
        have hE1 : (E) = min ((a.1 + 1) * N) l.length := by omega
        have hE2 : a.2.2 < (E) := by omega
        have hE3 : (E) ≤ l.length := by omega
        have hck : ck N l a.1 = (l.drop a.2.2).take ((E) - a.2.2) := by
          unfold ck
          rw [hKN, ← hat]
          apply List.ext_getElem?
          intro i
          rw [List.getElem?_take, List.getElem?_take]
          by_cases e1 : i < N
          · by_cases e2 : i < (E) - a.2.2
            · rw [if_pos e1, if_pos e2]
            · rw [if_pos e1, if_neg e2, List.getElem?_drop, List.getElem?_eq_none (by omega)]
          · rw [if_neg e1, if_neg (by omega)]
        have hcl2 : (ck N l a.1).length = (E) - a.2.2 := by rw [hck, List.length_take, List.length_drop]; omega
        simp (maxSteps := 1000000) -implicitDefEqProofs only [push_cast, seval, w1, w2]
        have hpr : RdV h1 (.slice (some ⟨id, off + a.2.2 * 1, none⟩) ((E) - a.2.2) 1) 1 encTx (ck N l a.1) := by rw [Nat.mul_one, hck]; exact part_rdv hrd1 hid1 (by omega)
        refine And.intro (by omega) (And.intro (by omega) (And.intro (by omega) ?_))
        have hLl : L.length = a.1 := by have := congrArg List.length hL2; rw [List.length_map, cks_len] at this; exact this
        have hal : a.1 ≤ a.1 * N := Nat.le_mul_of_pos_right _ hN
        refine app_copy si24 (by decide) (by decide) (notInt_sl und24) (by (try simp (maxSteps := 1000000) -implicitDefEqProofs only [push_cast, seval, rdOb]); try rfl) (by simp only [alloc_n]; omega) (hpr.pre ((Pre.refl _).alloc _)) (fun _ => rfl) (by omega) (fun h2 a2 n2 f2 => ?_)
        rw [flat_tx] at a2
        simp only [alloc_n] at a2 n2 f2
        have hp2 : Pre h1 h2 := ⟨by omega, fun i hi => (f2 i (by omega) (by omega)).trans (alloc_lt _ hi)⟩
        simp (maxSteps := 1000000) -implicitDefEqProofs only [push_cast, seval]
        refine Gr.app1 (h0 := h) si27 (by decide) (by decide) (notInt_sl und27) (hL1.pre hp2).out (hh.trans hp2) rfl (by rw [List.length_map, hLl]; omega) (by omega) (fun h3 g3 o3 p3 n3 f3 => ?_)
        simp (maxSteps := 1000000) -implicitDefEqProofs only [push_cast, seval]
        refine ⟨(a.1 + 1, _, (E)), by kernel_rfl, ⟨⟨by show a.1 + 1 ≤ m; omega, hE1⟩, ⟨L ++ [(ck N l a.1, _)], hL1.snoc hp2 (by omega) (by have := hh.n; omega) a2 g3 (by omega) (by omega) f3, by rw [List.map_append, hL2, cks_succ]; rfl⟩, p3⟩, by show l.length - (E) < l.length - a.2.2; omega⟩
      · try rw [w1] at hb3
        have w2 : True := trivial
        have hE1 : (l.length) = min ((a.1 + 1) * N) l.length := by omega
        have hE2 : a.2.2 < (l.length) := by omega
        have hE3 : (l.length) ≤ l.length := by omega
        have hck : ck N l a.1 = (l.drop a.2.2).take ((l.length) - a.2.2) := by
          unfold ck
          rw [hKN, ← hat]
          apply List.ext_getElem?
          intro i
          rw [List.getElem?_take, List.getElem?_take]
          by_cases e1 : i < N
          · by_cases e2 : i < (l.length) - a.2.2
            · rw [if_pos e1, if_pos e2]
            · rw [if_pos e1, if_neg e2, List.getElem?_drop, List.getElem?_eq_none (by omega)]
          · rw [if_neg e1, if_neg (by omega)]
        have hcl2 : (ck N l a.1).length = (l.length) - a.2.2 := by rw [hck, List.length_take, List.length_drop]; omega
        simp (maxSteps := 1000000) -implicitDefEqProofs only [push_cast, seval, w1, w2]
        have hpr : RdV h1 (.slice (some ⟨id, off + a.2.2 * 1, none⟩) ((l.length) - a.2.2) 1) 1 encTx (ck N l a.1) := by rw [Nat.mul_one, hck]; exact part_rdv hrd1 hid1 (by omega)
        refine And.intro (by omega) (And.intro (by omega) (And.intro (by omega) ?_))
        have hLl : L.length = a.1 := by have := congrArg List.length hL2; rw [List.length_map, cks_len] at this; exact this
        have hal : a.1 ≤ a.1 * N := Nat.le_mul_of_pos_right _ hN
        refine app_copy si24 (by decide) (by decide) (notInt_sl und24) (by (try simp (maxSteps := 1000000) -implicitDefEqProofs only [push_cast, seval, rdOb]); try rfl) (by simp only [alloc_n]; omega) (hpr.pre ((Pre.refl _).alloc _)) (fun _ => rfl) (by omega) (fun h2 a2 n2 f2 => ?_)
        rw [flat_tx] at a2
        simp only [alloc_n] at a2 n2 f2
        have hp2 : Pre h1 h2 := ⟨by omega, fun i hi => (f2 i (by omega) (by omega)).trans (alloc_lt _ hi)⟩
        simp (maxSteps := 1000000) -implicitDefEqProofs only [push_cast, seval]
        refine Gr.app1 (h0 := h) si27 (by decide) (by decide) (notInt_sl und27) (hL1.pre hp2).out (hh.trans hp2) rfl (by rw [List.length_map, hLl]; omega) (by omega) (fun h3 g3 o3 p3 n3 f3 => ?_)
        simp (maxSteps := 1000000) -implicitDefEqProofs only [push_cast, seval]
        refine ⟨(a.1 + 1, _, (l.length)), by kernel_rfl, ⟨⟨by show a.1 + 1 ≤ m; omega, hE1⟩, ⟨L ++ [(ck N l a.1, _)], hL1.snoc hp2 (by omega) (by have := hh.n; omega) a2 g3 (by omega) (by omega) f3, by rw [List.map_append, hL2, cks_succ]; rfl⟩, p3⟩, by show l.length - (l.length) < l.length - a.2.2; omega⟩
    · have hn1 : ¬ a.1 < m := fun e => by have := (hlt _).1 e; omega
      have em : a.1 = m := by omega
      rw [em, ← hcl] at hL2
      simp (maxSteps := 1000000) -implicitDefEqProofs only [push_cast, seval]
      exact ⟨L, hL1, hL2, hh⟩
end Go.Proofs.Ytcggnolnakgkeaa
namespace Go.Proofs.Ytcggnolnakgkeaa
open Go Go.Sim Go.Proofs
set_option linter.unusedSimpArgs false
set_option linter.unusedVariables false
set_option maxRecDepth 100000
set_option maxHeartbeats 1000000
theorem Filled.eq {l : List ByteArray} {cs : List Value} (w : Filled 1 encTx l cs l.length) : cs = l.map txV := by
  have hl : cs.length = l.length := by rw [w.1, Nat.mul_one]
  apply List.ext_getElem (by simp [hl])
  intro j h1 h2
  have hj : j < l.length := by omega
  have := congrArg (·[0]?) (w.2 j hj hj)
  simp only [List.getElem?_take, List.getElem?_drop, Nat.mul_one, encTx] at this
  rw [if_pos (by omega), Nat.add_zero, List.getElem?_eq_getElem h1] at this
  simpa [txV] using this
theorem toStringS_x (l : List ByteArray) (A : Option Addr) (ca : Nat) (h : AH) (hR : RdE h A 1 encTx l) (hn : l.length ≤ 1048576) :
    CC Try.prog 11 [.slice A l.length ca] h (fun v h' => v = .slice (some ⟨h.n, 0, none⟩) l.length 1 ∧ h' = h.alloc (.cells (l.map txV) .solo h.n)) :=
  (toStringS_c l A ca h hR (by omega)).mono fun v h' ⟨cs, e1, e2, f⟩ => ⟨e1, by rw [e2, f.eq]⟩
theorem lns_new (l : List ByteArray) (h : AH) : Lns (h.alloc (.cells (l.map txV) .solo h.n)) (some ⟨h.n, 0, none⟩) l := fun _ => ⟨h.n, 0, rfl, by rw [rd_alloc_same, rdO_cells, if_pos (by simp), List.drop_zero, List.take_of_length_le (by simp)], lt_alloc _⟩
theorem rdv_new (l : List ByteArray) (h : AH) : RdV (h.alloc (.cells (l.map txV) .solo h.n)) (.slice (some ⟨h.n, 0, none⟩) l.length 1) 1 encTx l :=
  .inr ⟨h.n, 0, 1, rfl, by rw [rd_alloc_same, rdO_cells, Nat.mul_one, if_pos (by simp), List.drop_zero, List.take_of_length_le (by simp), flat_tx], lt_alloc _⟩
/-- The mark of a copy that is one's own: nothing else is written. -/
theorem markS_solo (l : List ByteArray) (id k : Nat) (h : AH) (e : h.ob id = .cells (l.map txV) .solo id) (hid : id < h.n) (h0 : 0 < k) (hk : k + l.length < 4000000000000) (hn : l.length ≤ 1048576) :
    CC Try.prog 14 [.slice (some ⟨id, 0, none⟩) l.length 1, .int .i64 (k : Nat)] h (fun r h' => r = .int .i64 ((k + l.length : Nat) : Int) ∧ h'.n = h.n ∧ ∀ j, j ≠ id → h'.ob j = h.ob j) := by
  refine CC.withFit (fun ft => ?_)
  have o : Sim.Own h id 0 l.length 1 (l.map txV) := ⟨hid, by simp, _, .solo, id, e, .inl rfl, by simp, rfl⟩
  refine (markStringS_o id 0 l.length _ k h o h0 (by omega) (by omega)).mono (fun r h' ⟨e1, o1, w1⟩ => ⟨by rw [e1, Nat.mul_one], w1.n, fun j hj => w1.ob j hj (fun ln hln hown => ?_)⟩)
  obtain ⟨all, st, e2, _⟩ := hln.ob
  rw [e] at e2
  injection e2 with _ _ e3
  subst e3
  exact hj ((ft.solo id _ id e).2 j hown)
theorem mem_le_sum : ∀ {l : List Nat} {x : Nat}, x ∈ l → x ≤ l.sum
  | y :: r, x, h => by
    rw [List.sum_cons]
    rcases List.mem_cons.1 h with rfl | h
    · omega
    · have := mem_le_sum h; omega
theorem cut_small {l : List ByteArray} {n : Int} (hl : l.length ≤ 1048576) {L : List Part} (e : L.map Prod.fst = cutL n l) : L.length ≤ 1048576 ∧ (∀ x ∈ L, x.1.length ≤ 1048576) ∧ lens (L.map cellsP) ≤ 1048576 := by
  have h1 := cutL_len n l
  have h2 := cutL_sum n l
  rw [← e] at h1 h2
  rw [List.length_map] at h1
  have h3 : lens (L.map cellsP) = l.length := by
    rw [← h2]
    unfold lens
    rw [List.map_map, List.map_map]
    congr 1
    exact List.map_congr_left (fun x _ => by simp [cellsP])
  refine ⟨by omega, fun x hx => ?_, by omega⟩
  have : x.1.length ≤ ((L.map Prod.fst).map List.length).sum := mem_le_sum (by rw [List.map_map]; exact List.mem_map.2 ⟨x, hx, rfl⟩)
  omega
theorem law_CutLines (l : List ByteArray) (A : Option Addr) (ca : Nat) (n : Int) (h : AH) (hR : RdE h A 1 encTx l) (hz : ∀ x ∈ l, x.size ≤ maxLen) (hl0 : l.length ≤ maxLen) (hn : n ≤ 9223372036854775807) (big : Big h) (hlv : ∀ j, (h.ob j).own = none) :
    CE Try.prog 4 [.slice A l.length ca, .int .i64 n] h fun v _ => v = .bool true := by
  have hm := maxLen_eq
  refine CE.ofN Try.func4 Try.ntmps4 Try.results4 rfl (by kernel_rfl) ?_
  simp (maxSteps := 1000000) -implicitDefEqProofs only [push_cast, seval]
  with_reducible refine CD.to (szStringS_c l A ca 1048576 h hR hz hl0 (by omega)) ?_
  simp (maxSteps := 1000000) -implicitDefEqProofs only [push_cast, seval]
  with_reducible refine bcase_d (fun hb => ?_) (fun hb => ?_)
  · simp (maxSteps := 1000000) -implicitDefEqProofs only [push_cast, seval]
  have hl : l.length ≤ 1048576 := by
    by_cases e : (1048576 : Int) - l.length - txtW l l.length < 0
    · exact absurd (by rw [if_pos e]; decide) hb
    · omega
  clear hb
  simp (maxSteps := 1000000) -implicitDefEqProofs only [push_cast, seval]
  with_reducible refine CC.mono (toStringS_x l A ca h hR hl) (fun v h1 hv => ?_)
  have e1 := hv.1
  have e2 := hv.2
  clear hv
  subst e1
  have n1 : h1.n = h.n + 1 := by rw [e2]; rfl
  have p1 : Pre h h1 := by rw [e2]; exact (Pre.refl h).alloc _
  have r1 : Lns h1 (some ⟨h.n, 0, none⟩) l := by rw [e2]; exact lns_new l h
  clear e2
  simp (maxSteps := 1000000) -implicitDefEqProofs only [push_cast, seval]
  with_reducible refine CC.mono (CutLines_s n l _ h1 r1 hl hn) (fun w h2 hv => ?_)
  with_reducible refine Exists.elim hv (fun Lw hv => ?_)
  have pw := hv.1
  have ew := hv.2.1
  have p2 := hv.2.2
  clear hv
  have sw := cut_small hl ew
  have q2 := p1.trans p2
  simp (maxSteps := 1000000) -implicitDefEqProofs only [push_cast, seval]
  with_reducible refine CC.mono (toStringS_x l A ca h2 (hR.pre big q2) hl) (fun v h3 hv => ?_)
  have e1 := hv.1
  have e2 := hv.2
  clear hv
  subst e1
  have n3 : h3.n = h2.n + 1 := by rw [e2]; rfl
  have p3 : Pre h2 h3 := by rw [e2]; exact (Pre.refl h2).alloc _
  have r3 : Lns h3 (some ⟨h2.n, 0, none⟩) l := by rw [e2]; exact lns_new l h2
  have o3 : h3.ob h2.n = .cells (l.map txV) .solo h2.n := by rw [e2]; exact alloc_same _
  have v3 : RdV h3 (.slice (some ⟨h2.n, 0, none⟩) l.length 1) 1 encTx l := by rw [e2]; exact rdv_new l h2
  clear e2
  simp (maxSteps := 1000000) -implicitDefEqProofs only [push_cast, seval]
  with_reducible refine CC.mono (CutLines_i n l _ h3 r3 hl hn) (fun g h4 hv => ?_)
  with_reducible refine Exists.elim hv (fun Lg hv => ?_)
  have pg := hv.1
  have eg := hv.2.1
  have p4 := hv.2.2
  clear hv
  have sg := cut_small hl eg
  have q4 := q2.trans (p3.trans p4)
  have pw4 := pw.pre (p3.trans p4)
  simp (maxSteps := 1000000) -implicitDefEqProofs only [push_cast, seval]
  with_reducible refine CD.to (eqStringSS_c Lg Lw g w h4 (pg.rd sg.2.1) (pw4.rd sw.2.1) sg.1 sw.1) ?_
  have egw : decide (Lg.map Prod.fst = Lw.map Prod.fst) = true := by rw [eg, ew]; simp
  simp (maxSteps := 1000000) -implicitDefEqProofs only [push_cast, seval, egw]
  with_reducible refine CC.mono (toStringS_x l A ca h4 (hR.pre big q4) hl) (fun v h5 hv => ?_)
  have e1 := hv.1
  have e2 := hv.2
  clear hv
  subst e1
  have p5 : Pre h4 h5 := by rw [e2]; exact (Pre.refl h4).alloc _
  have v5 : RdV h5 (.slice (some ⟨h4.n, 0, none⟩) l.length 1) 1 encTx l := by rw [e2]; exact rdv_new l h4
  have n5 : h5.n = h4.n + 1 := by rw [e2]; rfl
  clear e2
  simp (maxSteps := 1000000) -implicitDefEqProofs only [push_cast, seval]
  with_reducible refine CD.to (eqS_v l l _ _ h5 (v3.pre (p4.trans p5)) v5 hl hl) ?_
  simp (maxSteps := 1000000) -implicitDefEqProofs only [push_cast, seval]
  have o5 : h5.ob h2.n = .cells (l.map txV) .solo h2.n := ((p4.trans p5).ob _ (by omega)).trans o3
  have n4 := p4.n
  have n2 := p2.n
  with_reducible refine CC.mono (markS_solo l h2.n 1 h5 o5 (by omega) (by omega) (by omega) hl) (fun v h6 hv => ?_)
  have e1 := hv.1
  have n6 := hv.2.1
  have f6 := hv.2.2
  clear hv
  with_reducible refine nameN (1 + l.length) (fun K6 hK6 => ?_)
  rw [← hK6] at e1
  subst e1
  have pg6 : Parts h3.n h6 g Lg := (pg.pre p5).keep (by omega) (fun i hi => f6 i (by have := (pg.lt hi).1; omega))
  have pw6 : Parts h1.n h6 w Lw := (pw4.pre p5).keep (by omega) (fun i hi => f6 i (by have := (pw.lt hi).2; omega))
  have q6 : Pre h h6 := ⟨by have := q4.n; omega, fun i hi => (f6 i (by have := q2.n; omega)).trans (((q4.trans p5).ob i hi))⟩
  simp (maxSteps := 1000000) -implicitDefEqProofs only [push_cast, seval]
  with_reducible refine bcase_d (fun hb => ?_) (fun hb => ?_)
  · exfalso; omega
  simp (maxSteps := 1000000) -implicitDefEqProofs only [push_cast, seval]
  with_reducible refine CD.to (eqStringSS_c Lg Lw g w h6 (pg6.rd sg.2.1) (pw6.rd sw.2.1) sg.1 sw.1) ?_
  simp (maxSteps := 1000000) -implicitDefEqProofs only [push_cast, seval, egw]
  have llg : (Lg.map cellsP).length ≤ 1048576 := by rw [List.length_map]; exact sg.1
  with_reducible refine CC.mono (markStringSS_c h3.n g (Lg.map cellsP) 1 h6 pg6.pc (by omega) (by have := sg.2.2; omega) llg) (fun v h7 hv => ?_)
  have e1 := hv.1
  have k7 := hv.2.1
  have n7 := hv.2.2.1
  have f7 := hv.2.2.2
  clear hv
  have sg3 := sg.2.2
  with_reducible refine nameN (1 + lens (Lg.map cellsP)) (fun K7 hK7 => ?_)
  rw [← hK7] at e1
  subst e1
  have rg : ∀ i, PB g (Lg.map cellsP) i → h3.n ≤ i := fun i hi => (pg6.pc.lt hi).1
  have q7 : Pre h h7 := ⟨by have := q6.n; omega, fun i hi => by
    have e := q6.ob i hi
    rw [← e]
    exact f7 i (fun hp => by have := rg i hp; have := q2.n; omega) (.inr (by rw [e]; exact hlv i))⟩
  have pw7 : Parts h1.n h7 w Lw := pw6.keep (by omega) (fun i hi => f7 i (fun hp => by have := rg i hp; have := (pw.lt hi).2; omega) (by
    rcases hi with hi | ⟨x, hx, hi⟩
    · exact pw6.pc.live (.inl hi)
    · exact pw6.pc.live (.inr ⟨cellsP x, List.mem_map_of_mem hx, hi⟩)))
  have hh7 := heldStringSS_c h3.n g (Lg.map cellsP) 1 h7 k7 (by omega) (by omega) llg
  rw [← hK7] at hh7
  simp (maxSteps := 1000000) -implicitDefEqProofs only [push_cast, seval]
  with_reducible refine CD.to hh7 ?_
  simp (maxSteps := 1000000) -implicitDefEqProofs only [push_cast, seval]
  with_reducible refine bcase_d (fun hb => ?_) (fun hb => ?_)
  · exfalso; omega
  simp (maxSteps := 1000000) -implicitDefEqProofs only [push_cast, seval]
  with_reducible refine CC.mono (toStringS_x l A ca h7 (hR.pre big q7) hl) (fun v h8 hv => ?_)
  have e1 := hv.1
  have e2 := hv.2
  clear hv
  subst e1
  have p8 : Pre h7 h8 := by rw [e2]; exact (Pre.refl h7).alloc _
  have r8 : Lns h8 (some ⟨h7.n, 0, none⟩) l := by rw [e2]; exact lns_new l h7
  clear e2
  simp (maxSteps := 1000000) -implicitDefEqProofs only [push_cast, seval]
  with_reducible refine CC.mono (CutLines_i n l _ h8 r8 hl hn) (fun y h9 hv => ?_)
  with_reducible refine Exists.elim hv (fun Ly hv => ?_)
  have py := hv.1
  have ey := hv.2.1
  have p9 := hv.2.2
  clear hv
  have sy := cut_small hl ey
  have pw9 := pw7.pre (p8.trans p9)
  have eyw : decide (Ly.map Prod.fst = Lw.map Prod.fst) = true := by rw [ey, ew]; simp
  simp (maxSteps := 1000000) -implicitDefEqProofs only [push_cast, seval]
  with_reducible refine CD.to (eqStringSS_c Ly Lw y w h9 (py.rd sy.2.1) (pw9.rd sw.2.1) sy.1 sw.1) ?_
  simp (maxSteps := 1000000) -implicitDefEqProofs only [push_cast, seval, eyw]
  have hh9 := heldStringSS_c h3.n g (Lg.map cellsP) 1 h9 (k7.pre (p8.trans p9)) (by omega) (by omega) llg
  rw [← hK7] at hh9
  with_reducible refine CD.to hh9 ?_
  simp (maxSteps := 1000000) -implicitDefEqProofs only [push_cast, seval]
  with_reducible refine bcase_d (fun hb => ?_) (fun hb => ?_)
  · exfalso; omega
  simp (maxSteps := 1000000) -implicitDefEqProofs only [push_cast, seval]
end Go.Proofs.Ytcggnolnakgkeaa
/- Numbers in texts, and stores that are put together. Conditions: those that each theorem names. -/
set_option linter.unusedSimpArgs false
set_option linter.unusedVariables false
namespace Go.Sim
def figB (c : UInt8) : Bool := decide (48 ≤ c.toNat) && decide (c.toNat ≤ 57)
def numL : Nat → List UInt8 → Nat
  | n, [] => n
  | n, c :: r => if figB c = true then numL ((10 * n + (c.toNat - 48)) % 1000000) r else n
def numOf (s : ByteArray) : Nat := numL 0 (Lib.trimLeftB s.data.toList 32)
theorem numL_lt : ∀ (l : List UInt8) (n : Nat), n < 1000000 → numL n l < 1000000
  | [], n, h => h
  | c :: r, n, h => by
    rw [numL]
    split
    · exact numL_lt r _ (Nat.mod_lt _ (by decide))
    · exact h
theorem numOf_lt (s : ByteArray) : numOf s < 1000000 := numL_lt _ _ (by decide)
def decB (n : Nat) : ByteArray := ⟨(Lib.decDigits n).toArray⟩
theorem decDigits_len : ∀ (k u : Nat), u < 10 ^ (k + 1) → (Lib.decDigits u).length ≤ k + 1
  | 0, u, h => by
    rw [Lib.decDigits, dif_pos (by simpa using h)]; simp
  | k + 1, u, h => by
    rw [Lib.decDigits]
    split
    · simp
    · have := decDigits_len k (u / 10) (by rw [Nat.pow_succ] at h; omega)
      simp; omega
theorem decB_size {n : Nat} (h : n < 1000000) : (decB n).size ≤ 6 := by
  have := decDigits_len 5 n (by simpa using h)
  simpa [decB, ByteArray.size] using this
/-- What is left to be told behind the digits that are told. -/
def decR (n : Nat) : ByteArray := if n = 0 then ⟨#[]⟩ else decB n
theorem decR_step {n : Nat} (h : n ≠ 0) : decR n = decR (n / 10) ++ ⟨#[UInt8.ofNat (48 + n % 10)]⟩ := by
  unfold decR
  rw [if_neg h]
  by_cases h1 : n < 10
  · rw [if_pos (by omega), decB, Lib.decDigits, dif_pos h1, Nat.mod_eq_of_lt h1]
    rfl
  · rw [if_neg (by omega), decB, Lib.decDigits, dif_neg h1]
    apply ByteArray.ext
    simp [decB]
def addT (a b : ByteArray) : ByteArray := decB ((numOf a + numOf b) % 1000000)
theorem addT_size (a b : ByteArray) : (addT a b).size ≤ 6 := decB_size (Nat.mod_lt _ (by decide))
def varIn (n : ByteArray) : List Var → ByteArray
  | [] => ⟨#[]⟩
  | x :: r => if x.name = n then x.val else varIn n r
def cellIn (n k : ByteArray) : List Cell → ByteArray
  | [] => ⟨#[]⟩
  | x :: r => if x.name = n ∧ x.key = k then x.val else cellIn n k r
theorem varIn_size (n : ByteArray) {b : Nat} : ∀ {l : List Var}, (∀ x ∈ l, x.val.size ≤ b) → (varIn n l).size ≤ b
  | [], _ => Nat.zero_le _
  | x :: r, h => by
    rw [varIn]
    split
    · exact h x (by simp)
    · exact varIn_size n (fun y hy => h y (by simp [hy]))
theorem cellIn_size (n k : ByteArray) {b : Nat} : ∀ {l : List Cell}, (∀ x ∈ l, x.val.size ≤ b) → (cellIn n k l).size ≤ b
  | [], _ => Nat.zero_le _
  | x :: r, h => by
    rw [cellIn]
    split
    · exact h x (by simp)
    · exact cellIn_size n k (fun y hy => h y (by simp [hy]))
def stepV (s : Store) (x : Var) : Store := setV s x.name (addT (varIn x.name s.vars) x.val)
def stepC (s : Store) (x : Cell) : Store := setC s x.name x.key (addT (cellIn x.name (cutB x.key) s.cells) x.val)
def mergeV (s : Store) (l : List Var) : Store := l.foldl stepV s
def mergeC (s : Store) (l : List Cell) : Store := l.foldl stepC s
def mergeD (s d : Store) : Store := ⟨(mergeC (mergeV s d.vars) d.cells).vars, (mergeC (mergeV s d.vars) d.cells).cells, outB (s.out ++ d.out)⟩
theorem foldl_next {α β : Type} (f : β → α → β) (s : β) {l : List α} {i : Nat} (hi : i < l.length) : (l.take (i + 1)).foldl f s = f ((l.take i).foldl f s) l[i] := by
  rw [List.take_add_one, List.getElem?_eq_getElem hi, List.foldl_append]; rfl
theorem mergeV_next (s : Store) {l : List Var} {i : Nat} (hi : i < l.length) : mergeV s (l.take (i + 1)) = stepV (mergeV s (l.take i)) l[i] := foldl_next _ _ hi
theorem mergeC_next (s : Store) {l : List Cell} {i : Nat} (hi : i < l.length) : mergeC s (l.take (i + 1)) = stepC (mergeC s (l.take i)) l[i] := foldl_next _ _ hi
theorem setV_out (s : Store) (n v : ByteArray) : (setV s n v).out = s.out := by unfold setV; split <;> rfl
theorem setC_out (s : Store) (n k v : ByteArray) : (setC s n k v).out = s.out := by unfold setC; split <;> rfl
theorem mergeV_out (l : List Var) : ∀ s, (mergeV s l).out = s.out := by
  induction l with
  | nil => intro s; rfl
  | cons x r ih => intro s; exact (ih _).trans (setV_out _ _ _)
theorem mergeC_out (l : List Cell) : ∀ s, (mergeC s l).out = s.out := by
  induction l with
  | nil => intro s; rfl
  | cons x r ih => intro s; exact (ih _).trans (setC_out _ _ _ _)
theorem SzB.mergeV {l : List Var} : ∀ {s : Store}, SzB s → (∀ x ∈ l, x.name.size ≤ 2000000) → SzB (mergeV s l) := by
  induction l with
  | nil => intro s h _; exact h
  | cons x r ih => intro s h hx; exact ih (h.setV (hx x (by simp))) (fun y hy => hx y (by simp [hy]))
theorem SzB.mergeC {l : List Cell} : ∀ {s : Store}, SzB s → (∀ x ∈ l, x.name.size ≤ 2000000) → SzB (mergeC s l) := by
  induction l with
  | nil => intro s h _; exact h
  | cons x r ih => intro s h hx; exact ih (h.setC (hx x (by simp))) (fun y hy => hx y (by simp [hy]))
end Go.Sim
/- Numbers told in figures, blanks ahead taken off: strconv.Itoa and strings.TrimLeft told of the abstract heap. Conditions: none. -/
set_option linter.unusedVariables false
set_option linter.unusedSimpArgs false
namespace Go.Sim
open Go.RowKit Go.Proofs Go.Shelf
variable {P : Program} {FB : Nat → Prop} {w0 : World} {μ : Nat → Option Loc} {h : AH} {w : World}
/-- The table of powers of ten, as it was found. -/
def powC : List Value := Lib.pow10Tab.map (Value.int .u64)
def Pow (g : Nat) (h : AH) : Prop := h.ob g = .cells powC .ro g
theorem Sim.table (s : Sim P FB w0 μ h w) {g : Nat} {nm : String} {zs : List Int} {k : IntKind} {n : Nat} (hg : P.globalNamed nm = some g) (hgs : g < P.globals.size) (e : h.ob g = .cells (zs.map (Value.int k)) .ro n) : Lib.TabIs P w nm k zs := by
  obtain ⟨l, hl, hb, ho⟩ := s.glob g hgs
  obtain ⟨arr, et, fz, h1, h2⟩ := s.tab g _ n hgs e
  have hF := s.rob g l _ n hl e (fun _ => hgs)
  rw [hb] at hF
  have hw : w.heap[g]? = some (.cells arr et fz) := (s.frame g hF).2.trans h1
  have ea : arr = (zs.map (Value.int k)).toArray := by
    apply Array.ext
    · simpa using h2
    · intro j a b
      have b' : j < zs.length := by simpa using b
      obtain ⟨cv, hc, hv⟩ := s.cell g l _ _ n hl e j (by simpa using b')
      rw [hb, ho, Nat.zero_add] at hc
      simp only [World.cell?, hw, Option.isSome_none, Bool.false_eq_true, if_false] at hc
      rw [Array.getElem?_eq_getElem a] at hc
      have hv' := VR.plain_eq (by simpa using hv) rfl
      simp only [Option.some.injEq] at hc
      simpa [hc] using hv'
  unfold Lib.TabIs World.var?
  rw [hg]
  simp only [Option.bind_some, hw, ea]
theorem below_grow_drew (w : World) (k : Nat) (os : Array Obj) : Below w.heap.size w (Sort.grow (w.drewN k) os) :=
  ⟨rfl, rfl, rfl, by rw [Sort.size_grow]; exact Nat.le_add_right _ _, fun b hb => Sort.heap_grow_old (w.drewN k) os hb⟩
theorem cargs_one {a : Value} {cargs : Array Value} (la : LR μ [a] cargs.toList) (hp : isPlain a = true) : cargs = #[a] := by
  have hsz : cargs.size = 1 := by have : cargs.toList.length = 1 := la.1.symm; simpa using this
  have h0 := la.2 0 (by simp) (by simpa using (by omega : 0 < cargs.size))
  have := VR.plain_eq h0 hp
  apply Array.ext
  · simpa using hsz
  · intro i a b
    have : i = 0 := by have : i < 1 := by simpa using b
                       omega
    subst this
    simpa using this
theorem CD.itoa {f : FuncId} {ρ : Ren} (hb : callB P f = true) (hf : ρ.f 171 = f) (L : LaysM.n171 P ρ) {g : Nat} (hg : P.globalNamed "internal/strconv.uint64pow10" = some g) (hgs : g < P.globals.size) (n : Nat) (hn : n < 1000000) (ht : Pow g h) :
    CD P f [.int .i64 (n : Nat)] h (.string (decB n)) h := by
  subst hf
  refine CE.call hb ?_
  intro FB w0 μ w cargs R' s la hk
  obtain rfl := cargs_one la rfl
  refine (Any.strconv_Itoa L (n : Int) (by omega) (by omega) w (s.table hg hgs ht)).mono fun e' w' h12 => ?_
  obtain ⟨h1, k, os, h2⟩ := h12
  subst h1 h2
  refine hk (.string (decB n)) h μ _ _ ⟨rfl, rfl⟩ ⟨s.below (below_grow_drew w k os), Ext.refl _, Unt.refl _ _⟩ ?_
  have : (Lib.itoa (n : Int)).toArray = (Lib.decDigits n).toArray := by rw [Lib.itoa, if_neg (by omega)]; simp
  rw [this]
  exact .plain _ rfl
theorem CD.trimL {f : FuncId} {ρ : Ren} (hb : callB P f = true) (hf : ρ.f 161 = f) (L : Lays.n161 P ρ) (s : ByteArray) : CD P f [.string s, .string ⟨#[32]⟩] h (.string ⟨(Lib.trimLeftB s.data.toList 32).toArray⟩) h := by
  subst hf
  refine CE.call hb ?_
  intro FB w0 μ w cargs R' si la hk
  have hsz : cargs.size = 2 := by have : cargs.toList.length = 2 := la.1.symm; simpa using this
  have h0 := VR.plain_eq (la.2 0 (by simp) (by simpa using (by omega : 0 < cargs.size))) rfl
  have h1 := VR.plain_eq (la.2 1 (by simp) (by simpa using (by omega : 1 < cargs.size))) rfl
  obtain rfl : cargs = #[.string s, .string ⟨#[32]⟩] := by
    apply Array.ext
    · simp [hsz]
    · intro i a b
      have : i = 0 ∨ i = 1 := by have : i < 2 := by simpa using b
                                 omega
      rcases this with rfl | rfl
      · simpa using h0
      · simpa using h1
  refine (Any.strings_TrimLeft_one L s 32 (by decide) w).mono fun e' w' h12 => ?_
  obtain ⟨h1, h2⟩ := h12
  subst h1 h2
  exact hk _ h μ _ _ ⟨rfl, rfl⟩ ⟨si, Ext.refl _, Unt.refl _ _⟩ (.plain _ rfl)
end Go.Sim
/- From a row to a law: two structs handed in, or one cell, and a table of the library's as it was laid. Conditions: those that each theorem names. -/
set_option linter.unusedVariables false
set_option linter.unusedSimpArgs false
namespace Go.Sim
open Go.ChangeShapes Go.WideShapes Go.RowKit Go.Deep
variable {H : Type} {enc : TypeId × Value → H} {held : Bool} {P : Program}
/-- The heap that a function is called in, a table told. -/
theorem Sim.baseT (w : World) (hg : P.globals.size ≤ w.heap.size) {g : Nat} {nm : String} {k : IntKind} {zs : List Int} (hgs : g < P.globals.size) (hn : P.globalNamed nm = some g) (ht : Lib.TabIs P w nm k zs) :
    Sim P (fun b => b < w.heap.size) w (mu0 w) ⟨w.heap.size, fun i => if i = g then .cells (zs.map (Value.int k)) .ro g else .none⟩ w := by
  have hob : ∀ i cs st ln, (if i = g then AOb.cells (zs.map (Value.int k)) .ro g else .none) = .cells cs st ln → i = g ∧ cs = zs.map (Value.int k) ∧ st = .ro ∧ ln = g := fun i cs st ln e => by
    by_cases x : i = g
    · rw [if_pos x] at e
      simp only [AOb.cells.injEq] at e
      exact ⟨x, e.1.symm, e.2.1.symm, e.2.2.symm⟩
    · rw [if_neg x] at e; cases e
  have hown : ∀ i n, (if i = g then AOb.cells (zs.map (Value.int k)) .ro g else .none).own = some n → False := fun i n e => by
    by_cases x : i = g
    · rw [if_pos x] at e; cases e
    · rw [if_neg x] at e; cases e
  have hmap : ∀ i es, (if i = g then AOb.cells (zs.map (Value.int k)) .ro g else .none) = .map es → False := fun i es e => by
    by_cases x : i = g
    · rw [if_pos x] at e; cases e
    · rw [if_neg x] at e; cases e
  have hcell : ∀ j (hj : j < zs.length), w.cell? ⟨g, j, none⟩ = some (.int k zs[j]) := fun j hj => by
    have := ht.cell hn j hj
    rw [this, List.getD, List.getElem?_eq_getElem hj]; rfl
  have hhp : ∃ arr e fz, w.heap[g]? = some (.cells arr e fz) ∧ arr.size = zs.length := by
    unfold Lib.TabIs World.var? at ht
    rw [hn] at ht
    simp only [Option.bind_some] at ht
    split at ht
    · rename_i cs t fz hh
      refine ⟨cs, t, fz, hh, ?_⟩
      have := Option.some.inj ht
      rw [this]; simp
    · cases ht
  constructor
  case os => rfl
  case tape => rfl
  case out => rfl
  case frame => exact fun b hb => ⟨hb, rfl⟩
  case dom =>
    intro i l hm
    unfold mu0 at hm
    split at hm
    · assumption
    · cases hm
  case big => intro i hi; exact if_neg (by have : w.heap.size ≤ i := hi; omega)
  case glob => intro g hg'; exact ⟨⟨g, 0, 0⟩, by unfold mu0; rw [if_pos (by omega)], rfl, rfl⟩
  case tab =>
    intro i c n _ ho
    obtain ⟨rfl, rfl, _, _⟩ := hob _ _ _ _ ho
    simpa using hhp
  case cell =>
    intro i l c st ln hm ho j hj
    obtain ⟨rfl, rfl, _, _⟩ := hob _ _ _ _ ho
    unfold mu0 at hm
    rw [if_pos (by omega)] at hm
    obtain rfl := Option.some.inj hm
    have hj' : j < zs.length := by simpa using hj
    refine ⟨.int k zs[j], ?_, ?_⟩
    · show w.cell? ⟨i, 0 + j, none⟩ = some (.int k zs[j])
      rw [Nat.zero_add]; exact hcell j hj'
    · simp only [List.getElem_map]
      exact .plain _ rfl
  case blk => intro i l c st ln _ ho hs; exact absurd (hob _ _ _ _ ho).2.2.1 hs
  case rob =>
    intro i l c ln hm ho _
    obtain ⟨rfl, _, _, _⟩ := hob _ _ _ _ ho
    unfold mu0 at hm
    rw [if_pos (by omega)] at hm
    obtain rfl := Option.some.inj hm
    show i < w.heap.size
    omega
  case onec =>
    intro i c st n ho v hv
    obtain ⟨_, rfl, _, _⟩ := hob _ _ _ _ ho
    obtain ⟨z, _, rfl⟩ := List.mem_map.1 hv
    rfl
  case sep => intro i j li lj ni nj _ _ oi; exact (hown _ _ oi).elim
  case tip => intro i j li lj ci cj sj ni nj _ _ oi; have := (hob _ _ _ _ oi).2.2.1; cases this
  case tipu => intro i j ci cj n oi; have := (hob _ _ _ _ oi).2.2.1; cases this
  case solo => intro i c n oi; have := (hob _ _ _ _ oi).2.2.1; cases this
  case lin => intro i n oi; exact (hown _ _ oi).elim
  case linc => intro i j n oi; exact (hown _ _ oi).elim
  case mp => intro i l es _ ho; exact (hmap _ _ ho).elim
  case mpu => intro i j li lj es es' _ _ oi; exact (hmap _ _ oi).elim
/-- What is read alone. -/
def AH.clean (h : AH) : AH := ⟨h.n, fun j => match h.ob j with | .cells cs .ro ln => .cells cs .ro ln | _ => .none⟩
theorem clean_ro {h : AH} {j : Nat} {cs : List Value} {ln : Nat} (e : h.ob j = .cells cs .ro ln) : h.clean.ob j = .cells cs .ro ln := by simp only [AH.clean, e]
theorem clean_own (h : AH) (j : Nat) : (h.clean.ob j).own = none := by
  simp only [AH.clean]
  split <;> rfl
theorem clean_less (h : AH) : Less h h.clean := by
  refine ⟨rfl, fun j => ?_⟩
  simp only [AH.clean]
  split
  · rename_i e; exact .inr (.inl e.symm)
  · exact .inl rfl
theorem Rep.clean {h : AH} {t : TypeId} {cs : List Value} (r : Rep P h t cs) : Rep P h.clean t cs := by
  induction r with
  | bool t b ht => exact .bool t b ht
  | int t k n ht hw => exact .int t k n ht hw
  | str t s ht hs => exact .str t s ht hs
  | nil t e c ht => exact .nil t e c ht
  | slice t e id n ln chs ht hid ho hn hm hl hr ih => exact .slice t e id n ln chs ht hid (clean_ro ho) hn hm hl ih
  | struct t fs cks ht hn hr ih => exact .struct t fs cks ht hn ih
theorem row_two_tab {f : FuncId} {t1 t2 : TypeId} {c1 c2 : Array Value} {d1 d2 : DataW H} {ps1 ps2 : List MemPlace} {W : World} (fl : Nat) (hfl1 : flat P fl t1 = true) (hfl2 : flat P fl t2 = true) (hg : P.globals.size ≤ W.heap.size)
    {g : Nat} {nm : String} {k : IntKind} {zs : List Int} (hgs : g < P.globals.size) (hn : P.globalNamed nm = some g) (hT : Lib.TabIs P W nm k zs)
    (ht1 : DataW.Trod enc P W 0 (fun _ => true) held t1 (.agg c1) d1 ps1) (ht2 : DataW.Trod enc P W 0 (fun _ => true) held t2 (.agg c2) d2 ps2)
    (hc : ∀ (h : AH) (a1 a2 : List Value), Rep P h t1 a1 → Rep P h t2 a2 → P.globals.size ≤ h.n → h.ob g = .cells (zs.map (Value.int k)) .ro g → (∀ j, (h.ob j).own = none) → CE P f [.agg a1.toArray, .agg a2.toArray] h fun r _ => r = .bool true) :
    Calls P f #[.agg c1, .agg c2] W fun e W' => e = .returned (.bool true) ∧ Below W.heap.size W W' := by
  obtain ⟨fuel1, hx1⟩ := ht1
  obtain ⟨fuel2, hx2⟩ := ht2
  obtain ⟨μ1, h1, a1, p1, g1, l1, r1⟩ := one_rep (FB := fun b => b < W.heap.size) (w0 := W) (fun b hb => hb) fl fuel1 t1 _ _ hfl1 hx1 (Sim.baseT W hg hgs hn hT)
  obtain ⟨μ2, h2, a2, p2, g2, l2, r2⟩ := one_rep (FB := fun b => b < W.heap.size) (w0 := W) (fun b hb => hb) fl fuel2 t2 _ _ hfl2 hx2 p1.sim
  have l1' := LR.ext p2.ext l1
  have v1 : VR μ2 (.agg a1.toArray) (.agg c1) := .agg _ _ (by simpa [Value.cells] using l1'.1) (fun j a b => by simpa [Value.cells] using l1'.2 j (by simpa using a) (by simpa [Value.cells] using b))
  have v2 : VR μ2 (.agg a2.toArray) (.agg c2) := .agg _ _ (by simpa [Value.cells] using l2.1) (fun j a b => by simpa [Value.cells] using l2.2 j (by simpa using a) (by simpa [Value.cells] using b))
  have hgn : P.globals.size ≤ h2.n := Nat.le_trans (Nat.le_trans hg g1.n) g2.n
  have hgl : g < W.heap.size := by omega
  have eT : h2.ob g = .cells (zs.map (Value.int k)) .ro g := ((g2.ob g (Nat.lt_of_lt_of_le hgl g1.n)).trans (g1.ob g hgl)).trans (if_pos rfl)
  refine hc h2.clean a1 a2 (r1.pre g2).clean r2.clean hgn (clean_ro eT) (clean_own h2) _ _ μ2 W #[.agg c1, .agg c2] _ (p2.sim.less (clean_less h2)) (LR.cons v1 (LR.cons v2 (LR.nil μ2))) (fun r' h' μ' cv w' hr p' hvr => ?_)
  subst hr
  refine ⟨by rw [hvr.bool], ⟨p'.sim.os, p'.sim.tape, p'.sim.out, ?_, fun b hb => (p'.sim.frame b hb).2⟩⟩
  rcases Nat.eq_zero_or_pos W.heap.size with e | e
  · omega
  · have := (p'.sim.frame (W.heap.size - 1) (by omega)).1; omega
theorem row_cell_tab {f : FuncId} {t : TypeId} {v : Value} {d : DataW H} {ps : List MemPlace} {W : World} (fl : Nat) (hfl : flat P fl t = true) (hg : P.globals.size ≤ W.heap.size) (hv : v.cells.toList = [v])
    {g : Nat} {nm : String} {k : IntKind} {zs : List Int} (hgs : g < P.globals.size) (hn : P.globalNamed nm = some g) (hT : Lib.TabIs P W nm k zs)
    (ht : DataW.Trod enc P W 0 (fun _ => true) held t v d ps) (hc : ∀ (h : AH) (av : Value), Rep P h t [av] → P.globals.size ≤ h.n → h.ob g = .cells (zs.map (Value.int k)) .ro g → CE P f [av] h fun r _ => r = .bool true) :
    Calls P f #[v] W fun e W' => e = .returned (.bool true) ∧ Below W.heap.size W W' := by
  obtain ⟨fuel, hx⟩ := ht
  rw [hv] at hx
  obtain ⟨μ, h, acs, p, g1, l, r⟩ := one_rep (FB := fun b => b < W.heap.size) (w0 := W) (fun b hb => hb) fl fuel t [v] _ hfl hx (Sim.baseT W hg hgs hn hT)
  obtain ⟨av, rfl⟩ : ∃ av, acs = [av] := by
    match acs, l.1 with
    | [a], _ => exact ⟨a, rfl⟩
  have hgl : g < W.heap.size := by omega
  refine hc h av r (Nat.le_trans hg g1.n) ((g1.ob g hgl).trans (if_pos rfl)) _ _ μ W #[v] _ p.sim l (fun r' h' μ' cv w' hr p' hvr => ?_)
  subst hr
  refine ⟨by rw [hvr.bool], ⟨p'.sim.os, p'.sim.tape, p'.sim.out, ?_, fun b hb => (p'.sim.frame b hb).2⟩⟩
  rcases Nat.eq_zero_or_pos W.heap.size with e | e
  · omega
  · have := (p'.sim.frame (W.heap.size - 1) (by omega)).1; omega
end Go.Sim
/- From a row to a law: two arguments of one cell each. Conditions: those that each theorem names. -/
set_option linter.unusedVariables false
set_option linter.unusedSimpArgs false
namespace Go.Sim
open Go.ChangeShapes Go.WideShapes Go.RowKit Go.Deep
variable {H : Type} {enc : TypeId × Value → H} {held : Bool} {P : Program}
theorem row_two_cells {f : FuncId} {t1 t2 : TypeId} {c1 c2 : Value} {d1 d2 : DataW H} {ps1 ps2 : List MemPlace} {W : World} (fl : Nat) (hfl1 : flat P fl t1 = true) (hfl2 : flat P fl t2 = true) (hg : P.globals.size ≤ W.heap.size)
    (hc1 : c1.cells.toList = [c1]) (hc2 : c2.cells.toList = [c2])
    (ht1 : DataW.Trod enc P W 0 (fun _ => true) held t1 c1 d1 ps1) (ht2 : DataW.Trod enc P W 0 (fun _ => true) held t2 c2 d2 ps2)
    (hc : ∀ (h : AH) (a1 a2 : Value), Rep P h t1 [a1] → Rep P h t2 [a2] → (∀ j, (h.ob j).own = none) → CE P f [a1, a2] h fun r _ => r = .bool true) :
    Calls P f #[c1, c2] W fun e W' => e = .returned (.bool true) ∧ Below W.heap.size W W' := by
  obtain ⟨fuel1, hx1⟩ := ht1
  obtain ⟨fuel2, hx2⟩ := ht2
  rw [hc1] at hx1
  rw [hc2] at hx2
  obtain ⟨μ1, h1, a1, p1, g1, l1, r1⟩ := one_rep (FB := fun b => b < W.heap.size) (w0 := W) (fun b hb => hb) fl fuel1 t1 _ _ hfl1 hx1 (Sim.base W hg)
  obtain ⟨μ2, h2, a2, p2, g2, l2, r2⟩ := one_rep (FB := fun b => b < W.heap.size) (w0 := W) (fun b hb => hb) fl fuel2 t2 _ _ hfl2 hx2 p1.sim
  obtain ⟨x1, rfl⟩ : ∃ av, a1 = [av] := by
    match a1, l1.1 with
    | [a], _ => exact ⟨a, rfl⟩
  obtain ⟨x2, rfl⟩ : ∃ av, a2 = [av] := by
    match a2, l2.1 with
    | [a], _ => exact ⟨a, rfl⟩
  have l1' := LR.ext p2.ext l1
  refine hc h2.clean x1 x2 (r1.pre g2).clean r2.clean (clean_own h2) _ _ μ2 W #[c1, c2] _ (p2.sim.less (clean_less h2)) (LR.cons l1'.head (LR.cons l2.head (LR.nil μ2))) (fun r' h' μ' cv w' hr p' hvr => ?_)
  subst hr
  refine ⟨by rw [hvr.bool], ⟨p'.sim.os, p'.sim.tape, p'.sim.out, ?_, fun b hb => (p'.sim.frame b hb).2⟩⟩
  rcases Nat.eq_zero_or_pos W.heap.size with e | e
  · omega
  · have := (p'.sim.frame (W.heap.size - 1) (by omega)).1; omega
end Go.Sim

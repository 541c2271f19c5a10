/- Slices that grow: made by the call itself, appended to. Conditions: those that each theorem names. -/
import Derived.Test.YtfbcedjheempfaaSimL
set_option linter.unusedVariables false
set_option linter.unusedSimpArgs false
namespace Go.Sim
variable {P : Program} {h h0 : AH}

/-- A slice of the call's own (its objects are no elder than n0), or nil: its cells. -/
def Gr (n0 : Nat) (h : AH) (v : Value) (k : Nat) (cs : List Value) : Prop :=
  (∃ c, v = .slice none 0 c ∧ cs = []) ∨ ∃ id off n, v = .slice (some ⟨id, off, none⟩) n k ∧ n0 ≤ id ∧ Own h id off n k cs
theorem Gr.nil (n0 : Nat) (h : AH) (c k : Nat) : Gr n0 h (.slice none 0 c) k [] := .inl ⟨c, rfl, rfl⟩
theorem Gr.new {n0 : Nat} (hn : n0 ≤ h.n) (cs : List Value) (n k : Nat) (e : cs.length = n * k) : Gr n0 (h.alloc (.cells cs .solo h.n)) (.slice (some ⟨h.n, 0, none⟩) n k) k cs := .inr ⟨h.n, 0, n, rfl, hn, Own.new cs n k e⟩
theorem Gr.pre {n0 : Nat} {h' : AH} {v : Value} {k : Nat} {cs : List Value} (w : Gr n0 h v k cs) (p : Pre h h') : Gr n0 h' v k cs := by
  rcases w with w | ⟨id, off, n, a, b, c⟩
  · exact .inl w
  · exact .inr ⟨id, off, n, a, b, c.pre p⟩
theorem Gr.alloc {n0 : Nat} {v : Value} {k : Nat} {cs : List Value} (w : Gr n0 h v k cs) (o : AOb) : Gr n0 (h.alloc o) v k cs := w.pre ((Pre.refl h).alloc o)
/-- Its objects. -/
def atBlock (v : Value) (i : Nat) : Prop := match v with | .slice (some a) _ _ => a.block = i | _ => False
theorem Gr.keep {n0 : Nat} {h' : AH} {v : Value} {k : Nat} {cs : List Value} (w : Gr n0 h v k cs) (hn : h.n ≤ h'.n) (e : ∀ i, atBlock v i → h'.ob i = h.ob i) : Gr n0 h' v k cs := by
  rcases w with w | ⟨id, off, n, rfl, b, c⟩
  · exact .inl w
  · exact .inr ⟨id, off, n, rfl, b, c.same (e id rfl) hn⟩

theorem Gr.app {t u e : TypeId} {s b : Nat} {z : List Value} {ag : Bool} {v x : Value} {cs new : List Value} {m : Nat} {K : Value → AH → Prop} {n0 : Nat}
    (hs : si P t = some (e, ⟨s, b, z, ag⟩)) (hpos : 0 < s) (hby : b ≤ 256) (hu : notInt (P.underlying u)) (w : Gr h0.n h v s cs) (p : Pre h0 h) (hx : asrc h s x = some (m, new)) (hm : new.length = m * s) (hb : cs.length / s + m < 274877906944) (h1 : 0 < m)
    (hk : ∀ h', Gr h0.n h' (.slice (some ⟨h.n, 0, none⟩) (cs.length / s + m) s) s (cs ++ new) → Own h' h.n 0 (cs.length / s + m) s (cs ++ new) → Pre h0 h' → h'.n = h.n + 1 → (∀ i, i < h.n → ¬ atBlock v i → h'.ob i = h.ob i) → K (.slice (some ⟨h.n, 0, none⟩) (cs.length / s + m) s) h') :
    aappend P h t u v x K := by
  rcases w with ⟨c, rfl, rfl⟩ | ⟨id, off, n, rfl, b', w⟩
  · simp only [List.length_nil, Nat.zero_div, Nat.zero_add, List.nil_append] at hk hb
    refine app_nil hs hpos hby hu hx hm hb h1 (fun h' w' hn he => hk h' (.inr ⟨_, _, _, rfl, p.n, w'⟩) w' ⟨by have := p.n; omega, fun i hi => (he i (Nat.lt_of_lt_of_le hi p.n)).trans (p.ob i hi)⟩ hn (fun i hi _ => he i hi))
  · have hl : cs.length / s = n := by rw [w.len]; exact Nat.mul_div_cancel n hpos
    rw [hl] at hb hk
    refine app_own hs hpos hby hu w hx hm hb (fun h' w' hn he => hk h' (.inr ⟨_, _, _, rfl, p.n, w'⟩) w' ⟨by have := p.n; omega, fun i hi => (he i (Nat.lt_of_lt_of_le hi p.n) (by omega)).trans (p.ob i hi)⟩ hn (fun i hi hb => he i hi (fun e => hb e.symm)))

theorem Gr.not_new {n0 : Nat} {v : Value} {k : Nat} {cs : List Value} (w : Gr n0 h v k cs) : ¬ atBlock v h.n := by
  rcases w with ⟨c, rfl, rfl⟩ | ⟨id, off, n, rfl, b, o⟩
  · exact id
  · exact fun e => absurd (show id < h.n from o.lt) (by have e' : id = h.n := e; omega)

/-- An append of new elements, laid down just before. -/
theorem Gr.app1 {t u e : TypeId} {s b : Nat} {z : List Value} {ag : Bool} {v : Value} {cs new : List Value} {m c : Nat} {K : Value → AH → Prop}
    (hs : si P t = some (e, ⟨s, b, z, ag⟩)) (hpos : 0 < s) (hby : b ≤ 256) (hu : notInt (P.underlying u)) (w : Gr h0.n h v s cs) (p : Pre h0 h) (hm : new.length = m * s) (hb : cs.length / s + m < 274877906944) (h1 : 0 < m)
    (hk : ∀ h', Gr h0.n h' (.slice (some ⟨h.n + 1, 0, none⟩) (cs.length / s + m) s) s (cs ++ new) → Own h' (h.n + 1) 0 (cs.length / s + m) s (cs ++ new) → Pre h0 h' → h'.n = h.n + 2 → (∀ i, i < h.n → ¬ atBlock v i → h'.ob i = h.ob i) → K (.slice (some ⟨h.n + 1, 0, none⟩) (cs.length / s + m) s) h') :
    aappend P (h.alloc (.cells new .solo h.n)) t u v (.slice (some ⟨h.n, 0, none⟩) m c) K :=
  Gr.app (n0 := 0) hs hpos hby hu (w.alloc _) (p.alloc _) (asrc_new new s m c hm) hm hb h1 (fun h' g o p' hn he => hk h' g o p' hn (fun i hi hv => (he i (Nat.lt_succ_of_lt hi) hv).trans (alloc_lt _ hi)))
theorem notInt_sl {e : TypeId} {o : Option TypeDesc} (h : o = some (.slice e)) : notInt o := by rw [h, notInt_slice]; trivial
theorem notInt_str {o : Option TypeDesc} (h : o = some .string) : notInt o := by rw [h, notInt_string]; trivial

theorem toBytes_nat : ∀ l : List Nat, toBytes (l.map fun b => Value.int .u8 (b : Nat)) = some (l.map UInt8.ofNat)
  | [] => rfl
  | b :: r => by simp [toBytes, toBytes_nat r]
theorem set_set (h : AH) (p : Nat) (o o' : AOb) : (h.set p o).set p o' = h.set p o' := by
  unfold AH.set
  simp only
  congr 1
  funext j
  split <;> rfl
attribute [push_cast] set_set
theorem lt_set_of {h : AH} {i j : Nat} (o : AOb) (e : i < h.n) : i < (h.set j o).n := e
attribute [push_cast] lt_set_of
theorem castLit0 : ((0 : Nat) : Int) = 0 := rfl
theorem castLit1 : ((1 : Nat) : Int) = 1 := rfl
theorem castLit2 : ((2 : Nat) : Int) = 2 := rfl
theorem castLit3 : ((3 : Nat) : Int) = 3 := rfl
theorem castLit4 : ((4 : Nat) : Int) = 4 := rfl
theorem castLit5 : ((5 : Nat) : Int) = 5 := rfl
theorem castLit6 : ((6 : Nat) : Int) = 6 := rfl
theorem castLit7 : ((7 : Nat) : Int) = 7 := rfl
theorem castLit8 : ((8 : Nat) : Int) = 8 := rfl
theorem castLit9 : ((9 : Nat) : Int) = 9 := rfl
theorem castLit10 : ((10 : Nat) : Int) = 10 := rfl
theorem castLit11 : ((11 : Nat) : Int) = 11 := rfl
theorem castLit12 : ((12 : Nat) : Int) = 12 := rfl
theorem castLit13 : ((13 : Nat) : Int) = 13 := rfl
theorem castLit14 : ((14 : Nat) : Int) = 14 := rfl
theorem castLit15 : ((15 : Nat) : Int) = 15 := rfl
theorem castLit16 : ((16 : Nat) : Int) = 16 := rfl
theorem castLit17 : ((17 : Nat) : Int) = 17 := rfl
theorem castLit18 : ((18 : Nat) : Int) = 18 := rfl
theorem castLit19 : ((19 : Nat) : Int) = 19 := rfl
theorem castLit20 : ((20 : Nat) : Int) = 20 := rfl
attribute [push_cast high] castLit0 castLit1 castLit2 castLit3 castLit4 castLit5 castLit6 castLit7 castLit8 castLit9 castLit10 castLit11 castLit12 castLit13 castLit14 castLit15 castLit16 castLit17 castLit18 castLit19 castLit20
attribute [push_cast] List.replicate_succ List.replicate_zero ne_eq not_false_eq_true all1 Nat.zero_le Nat.le_refl
end Go.Sim

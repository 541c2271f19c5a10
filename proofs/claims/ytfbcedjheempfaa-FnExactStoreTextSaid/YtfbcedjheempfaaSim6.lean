/- Operations on numbers and strings, literals, makes. Conditions: those that each theorem names. -/
import Derived.Test.YtfbcedjheempfaaSim5
import Derived.Lib.ConvBytes
set_option linter.unusedVariables false
set_option linter.unusedSimpArgs false
namespace Go.Sim
variable {P : Program} {FB : Nat → Prop} {w0 : World} {μ : Nat → Option Loc} {h : AH} {w : World}

theorem abin_sound {op : BinOp} {t : TypeId} {x y : Operand} {ρ : Operand → Value} {K : Value → Prop} (hk : abin op (ρ x) (ρ y) K) :
    ∃ v, AIns P (fun σ => (do eqGuard op t x y (σ x) (σ y); binOp op t (σ x) (σ y) : Sem Value)) [x, y] ρ h v h ∧ K v := by
  unfold abin at hk
  have hint : ∀ (k k' : IntKind) (a b : Int) (w : World), (eqGuard op t x y (.int k a) (.int k' b)).run P w = .ok () w := fun k k' a b w => by cases op <;> rfl
  have hstr : ∀ (a b : ByteArray) (w : World), (eqGuard op t x y (.string a) (.string b)).run P w = .ok () w := fun a b w => by cases op <;> rfl
  have go : ∀ (v : Value) (K : Value → Prop), isPlain v = true → (∀ w, (do eqGuard op t x y (ρ x) (ρ y); binOp op t (ρ x) (ρ y) : Sem Value).run P w = .ok v w) → isPlain (ρ x) = true → isPlain (ρ y) = true → K v →
      ∃ v, AIns P (fun σ => (do eqGuard op t x y (σ x) (σ y); binOp op t (σ x) (σ y) : Sem Value)) [x, y] ρ h v h ∧ K v := fun v K hp hr hx hy hk =>
    ⟨v, AIns.quiet (fun FB w0 μ σ w s hxs => by
      have a := hxs x (by simp)
      have b := hxs y (by simp)
      have pl : ∀ {u c : Value}, isPlain u = true → VR μ u c → c = u := fun {u c} hu hv => by
        cases hv <;> first | rfl | (simp [isPlain] at hu; done) | skip
        all_goals (rename_i e1 e2; simp [isPlain] at hu; subst hu; congr 1; exact (Array.eq_empty_of_size_eq_zero (by simpa using e1.symm)))
      rw [pl hx a, pl hy b]
      exact ⟨v, hr w, .plain v hp⟩), hk⟩
  split at hk
  all_goals first
    | exact hk.elim
    | (rename_i k a k' b e1 e2; rw [e1, e2] at go
       first
        | (obtain ⟨h0, hk⟩ := hk; refine go _ _ rfl (fun w => ?_) rfl rfl hk; simp [hint, binOp, Op.shift, show ¬ b < 0 by omega])
        | (obtain ⟨rfl, h0, hk⟩ := hk; refine go _ _ rfl (fun w => ?_) rfl rfl hk; simp [hint, binOp, Op.intDiv, h0])
        | (obtain ⟨rfl, hk⟩ := hk; refine go _ _ rfl (fun w => ?_) rfl rfl hk; simp [hint, binOp, Op.intArith, Op.intBits, Op.intCmp, bne] <;> done)
        | (obtain ⟨rfl, hk⟩ := hk; refine go _ _ rfl (fun w => ?_) rfl rfl hk; simp [hint, binOp, Op.intArith, Op.intBits, Op.intCmp, bne]; rfl))
    | (rename_i a b e1 e2; rw [e1, e2] at go
       first
        | (obtain ⟨h0, hk⟩ := hk; refine go _ _ rfl (fun w => ?_) rfl rfl hk; simp only [Sem.run_bind, hstr, Result.andThen_ok, binOp, Op.stringOp]; rw [if_neg (by simp [IntKind.max, IntKind.bits, IntKind.signed]; omega)]; rfl)
        | (refine go _ _ rfl (fun w => ?_) rfl rfl hk; simp only [Sem.run_bind, hstr, Result.andThen_ok, binOp, Op.stringOp, toList_inj]; rfl))

/-- Equality by the type: bools, pointers against nil. -/
def aeqB (P : Program) (t : TypeId) (x y : Value) : Option Bool :=
  match P.underlying t, x, y with
  | some .bool, .bool a, .bool b => some (a == b)
  | some (.pointer _), .pointer none, .pointer b => some b.isNone
  | some (.pointer _), .pointer (some _), .pointer none => some false
  | _, _, _ => none
def aeq (P : Program) (op : BinOp) (t : TypeId) (x y : Value) (K : Value → Prop) : Prop :=
  match op, aeqB P t x y with
  | .eql, some b => K (.bool b)
  | .neq, some b => K (.bool (!b))
  | _, _ => False
def abinT (P : Program) (op : BinOp) (t : TypeId) (x y : Value) (K : Value → Prop) : Prop :=
  match x with
  | .bool _ | .pointer _ => aeq P op t x y K
  | _ => abin op x y K
theorem VR.ptrish {a : Option Addr} {c : Value} (hv : VR μ (.pointer a) c) : ∃ a', c = .pointer a' ∧ a'.isNone = a.isNone := by
  cases hv with
  | plain => exact ⟨a, rfl, rfl⟩
  | ptr => exact ⟨_, rfl, rfl⟩
theorem aeqB_run {t : TypeId} {x y cx cy : Value} {b : Bool} (e : aeqB P t x y = some b) (hx : VR μ x cx) (hy : VR μ y cy) (w : World) : (Op.equal t cx cy).run P w = .ok b w := by
  have hd : ∀ t x y, Op.equal t x y = Op.equalIn (9999 + 1) t x y := fun _ _ _ => rfl
  unfold aeqB at e
  rw [hd]
  unfold Op.equalIn
  split at e
  · rename_i hu
    rw [hx.bool, hy.bool]
    obtain rfl := Option.some.inj e
    simp [Sem.run_bind, run_underlying hu]
  · rename_i hu
    obtain ⟨a', rfl, h1⟩ := hx.ptrish
    obtain ⟨b', rfl, h2⟩ := hy.ptrish
    obtain rfl := Option.some.inj e
    have : a' = none := by simpa using h1
    subst this
    simp [Sem.run_bind, run_underlying hu, h2]
  · rename_i hu
    obtain ⟨a', rfl, h1⟩ := hx.ptrish
    obtain ⟨b', rfl, h2⟩ := hy.ptrish
    obtain rfl := Option.some.inj e
    have : b' = none := by simpa using h2
    subst this
    cases a' with
    | none => simp at h1
    | some a' => simp [Sem.run_bind, run_underlying hu]
  · cases e
theorem aeqB_guard {op : BinOp} {t : TypeId} {x y : Value} {cx cy : Value} {b : Bool} {xo yo : Operand} (e : aeqB P t x y = some b) (hx : VR μ x cx) (hy : VR μ y cy) (w : World) : (eqGuard op t xo yo cx cy).run P w = .ok () w := by
  unfold aeqB at e
  split at e
  · rw [hx.bool, hy.bool]; cases op <;> rfl
  · obtain ⟨a', rfl, h1⟩ := hx.ptrish
    obtain ⟨b', rfl, h2⟩ := hy.ptrish
    cases op <;> rfl
  · obtain ⟨a', rfl, h1⟩ := hx.ptrish
    obtain ⟨b', rfl, h2⟩ := hy.ptrish
    cases op <;> rfl
  · cases e
theorem aeqB_bin {op : BinOp} {t : TypeId} {x y : Value} {cx cy : Value} {b : Bool} (e : aeqB P t x y = some b) (hx : VR μ x cx) (hy : VR μ y cy) :
    binOp .eql t cx cy = (do pure (.bool (← Op.equal t cx cy))) ∧ binOp .neq t cx cy = (do pure (.bool (!(← Op.equal t cx cy)))) := by
  unfold aeqB at e
  split at e
  · rw [hx.bool, hy.bool]; exact ⟨rfl, rfl⟩
  · obtain ⟨a', rfl, h1⟩ := hx.ptrish
    obtain ⟨b', rfl, h2⟩ := hy.ptrish
    exact ⟨rfl, rfl⟩
  · obtain ⟨a', rfl, h1⟩ := hx.ptrish
    obtain ⟨b', rfl, h2⟩ := hy.ptrish
    exact ⟨rfl, rfl⟩
  · cases e
theorem aeq_sound {op : BinOp} {t : TypeId} {x y : Operand} {ρ : Operand → Value} {K : Value → Prop} (hk : aeq P op t (ρ x) (ρ y) K) :
    ∃ v, AIns P (fun σ => (do eqGuard op t x y (σ x) (σ y); binOp op t (σ x) (σ y) : Sem Value)) [x, y] ρ h v h ∧ K v := by
  unfold aeq at hk
  split at hk
  · rename_i b e
    refine ⟨_, AIns.quiet (fun FB w0 μ σ w s hxs => ?_), hk⟩
    have hx := hxs x (by simp)
    have hy := hxs y (by simp)
    refine ⟨.bool b, ?_, .plain _ rfl⟩
    simp only [Sem.run_bind, aeqB_guard e hx hy, Result.andThen_ok, (aeqB_bin (op := .eql) e hx hy).1, aeqB_run e hx hy, Sem.run_pure]
  · rename_i b e
    refine ⟨_, AIns.quiet (fun FB w0 μ σ w s hxs => ?_), hk⟩
    have hx := hxs x (by simp)
    have hy := hxs y (by simp)
    refine ⟨.bool (!b), ?_, .plain _ rfl⟩
    simp only [Sem.run_bind, aeqB_guard e hx hy, Result.andThen_ok, (aeqB_bin (op := .neq) e hx hy).2, aeqB_run e hx hy, Sem.run_pure]
  · exact hk.elim
theorem abinT_sound {op : BinOp} {t : TypeId} {x y : Operand} {ρ : Operand → Value} {K : Value → Prop} (hk : abinT P op t (ρ x) (ρ y) K) :
    ∃ v, AIns P (fun σ => (do eqGuard op t x y (σ x) (σ y); binOp op t (σ x) (σ y) : Sem Value)) [x, y] ρ h v h ∧ K v := by
  unfold abinT at hk
  split at hk
  · exact aeq_sound hk
  · exact aeq_sound hk
  · exact abin_sound hk

def aun (op : UnOp) (x : Value) (K : Value → Prop) : Prop :=
  match op, x with
  | .not, .bool b => K (.bool (!b))
  | .neg, .int k n => K (.int k (k.wrap (0 - n)))
  | _, _ => False
theorem VR.plainEq {u c : Value} (hu : isPlain u = true) (hv : VR μ u c) : c = u := by
  cases hv <;> first | rfl | (simp [isPlain] at hu; done) | skip
  all_goals (rename_i e1 e2; simp [isPlain] at hu; subst hu; congr 1; exact (Array.eq_empty_of_size_eq_zero (by simpa using e1.symm)))
theorem aun_sound {op : UnOp} {x : Operand} {ρ : Operand → Value} {K : Value → Prop} (hk : aun op (ρ x) K) :
    ∃ v, AIns P (fun σ => Op.unary op (σ x)) [x] ρ h v h ∧ K v := by
  unfold aun at hk
  split at hk
  · rename_i b e
    refine ⟨_, AIns.quiet (fun FB w0 μ σ w s hx => ?_), hk⟩
    have := hx x (by simp); rw [e] at this
    exact ⟨_, by rw [this.bool]; rfl, .plain _ rfl⟩
  · rename_i k n e
    refine ⟨_, AIns.quiet (fun FB w0 μ σ w s hx => ?_), hk⟩
    have := hx x (by simp); rw [e] at this
    exact ⟨_, by rw [this.int]; rfl, .plain _ rfl⟩
  · exact hk.elim

/-! ### turning one type into another -/
def bytesV (s : ByteArray) : List Value := s.data.toList.map fun b => .int .u8 b.toNat
/-- Bytes of cells. -/
def toBytes : List Value → Option (List UInt8)
  | [] => some []
  | .int .u8 n :: r => (toBytes r).map (UInt8.ofNat n.toNat :: ·)
  | _ => none

def aconv (P : Program) (h : AH) (src dst : TypeId) (x : Value) (K : Value → AH → Prop) : Prop :=
  match P.underlying src, P.underlying dst, x with
  | some _, some (.int k), .int _ n => K (.int k (k.wrap n)) h
  | some .string, some .string, .string s => K (.string s) h
  | some _, some (.slice e), .string s => P.underlying e = some (.int .u8) ∧ K (.slice (some ⟨h.n, 0, none⟩) s.size 1) (h.alloc (.cells (bytesV s) .solo h.n))
  | some (.slice e), some .string, .slice Option.none 0 _ => P.underlying e = some (.int .u8) ∧ K (.string ByteArray.empty) h
  | some (.slice e), some .string, .slice (some ⟨id, off, Option.none⟩) n _ => P.underlying e = some (.int .u8) ∧
      (match (rd h id off n).bind toBytes with | some l => K (.string ⟨l.toArray⟩) h | none => False)
  | _, _, _ => False

theorem toBytes_LR : ∀ {vs cvs : List Value} {l : List UInt8}, toBytes vs = some l → LR μ vs cvs → cvs = vs
  | [], cvs, l, _, e => by have := e.1; simp at this; exact List.eq_nil_of_length_eq_zero this.symm
  | v :: r, [], l, _, e => by have := e.1; simp at this
  | v :: r, c :: cr, l, ht, e => by
    have hh := e.head
    cases v <;> first | (simp [toBytes] at ht; done) | skip
    rename_i k n
    cases k <;> first | (simp [toBytes] at ht; done) | skip
    simp only [toBytes, Option.map_eq_some_iff] at ht
    obtain ⟨l', hl', _⟩ := ht
    rw [hh.int, toBytes_LR hl' e.tail]

theorem toBytes_nums : ∀ {vs : List Value} {l : List UInt8}, toBytes vs = some l → ∃ ns : List Int, vs = ns.map (Value.int .u8) ∧ l = ns.map fun n => UInt8.ofNat n.toNat
  | [], l, e => ⟨[], rfl, by simpa [toBytes] using e.symm⟩
  | v :: r, l, e => by
    cases v <;> first | (simp [toBytes] at e; done) | skip
    rename_i k n
    cases k <;> first | (simp [toBytes] at e; done) | skip
    simp only [toBytes, Option.map_eq_some_iff] at e
    obtain ⟨l', hl', rfl⟩ := e
    obtain ⟨ns, rfl, rfl⟩ := toBytes_nums hl'
    exact ⟨n :: ns, rfl, rfl⟩
theorem foldl_push : ∀ (ns : List Int) (s : ByteArray), ns.foldl (fun r n => r.push (UInt8.ofNat n.toNat)) s = ⟨s.data ++ (ns.map fun n => UInt8.ofNat n.toNat).toArray⟩
  | [], s => by simp
  | n :: ns, s => by
    rw [List.foldl_cons, foldl_push ns]
    congr 1
    simp [ByteArray.push]

theorem grown_heap (w : World) (e : TypeId) (s : ByteArray) :
    (Lib.bytesWorld w e s).heap = (w.drew.alloc (.cells (Lib.bytesCells w e s) e ((Lib.bytesCells w e s).size, (Lib.bytesCells w e s).size + 1))).heap := by
  apply Array.ext_getElem?
  intro j
  by_cases h1 : j < w.heap.size
  · rw [Lib.bytesWorld_at_old w e s j h1, RowKit.Below.heap_alloc w.drew _ j h1]; rfl
  · by_cases h2 : j = w.heap.size
    · subst h2
      rw [Lib.bytesWorld_at_new]
      exact (heap_alloc_new w.drew _).symm
    · rw [Array.getElem?_eq_none (by rw [Lib.bytesWorld_size]; omega), Array.getElem?_eq_none (by simp; omega)]

theorem bytesV_length (s : ByteArray) : (bytesV s).length = s.size := by simp [bytesV]
theorem bytesV_plain (s : ByteArray) : ∀ v ∈ bytesV s, zok v = true := by
  intro v hv
  simp only [bytesV, List.mem_map] at hv
  obtain ⟨b, _, rfl⟩ := hv
  rfl

theorem aconv_sound {src dst : TypeId} {x : Operand} {ρ : Operand → Value} {K : Value → AH → Prop} (hk : aconv P h src dst (ρ x) K) :
    ∃ v h', AIns P (fun σ => convert src dst (σ x)) [x] ρ h v h' ∧ K v h' := by
  unfold aconv at hk
  split at hk
  · rename_i ds k ik n hs hd hp
    refine ⟨_, h, AIns.quiet (fun FB w0 μ σ w s hx => ?_), hk⟩
    have := hx x (by simp); rw [hp] at this
    rw [this.int]
    refine ⟨_, ?_, .plain _ rfl⟩
    simp [convert, run_underlying hs, run_underlying hd, Conv.intToInt]
  · rename_i s hs hd hp
    refine ⟨_, h, AIns.quiet (fun FB w0 μ σ w s' hx => ?_), hk⟩
    have := hx x (by simp); rw [hp] at this
    rw [this.string]
    exact ⟨_, by simp [convert, run_underlying hs, run_underlying hd], .plain _ rfl⟩
  · rename_i ds e s hs hd hp
    obtain ⟨he, hk⟩ := hk
    refine ⟨_, _, ?_, hk⟩
    intro FB w0 μ σ w s' hx
    have hv := hx x (by simp); rw [hp] at hv
    have hcap := Lib.run_convert_string_bytes w src dst e s hs hd he
    have hsz : (Lib.bytesCells w e s).size = s.size + (grownCap w s.size 0 e - s.size) := by simp [Lib.bytesCells]
    have hge : s.size ≤ grownCap w s.size 0 e := by simp [grownCap, Question.cut]
    have hpost := (s'.drew).new (cs := bytesV s) (arr := Lib.bytesCells w e s) (e := e) (fz := ((Lib.bytesCells w e s).size, (Lib.bytesCells w e s).size + 1))
      (by rw [bytesV_length, hsz]; omega) (fun j a b => by
        have a' : j < s.data.size := by rw [bytesV_length] at a; exact a
        have : (Lib.bytesCells w e s)[j] = (bytesV s)[j] := by
          simp only [Lib.bytesCells, bytesV, List.getElem_map]
          rw [Array.getElem_append_left (by simpa using a')]
          simp
        rw [this]
        exact zok_VR (bytesV_plain s _ (List.getElem_mem a)) μ) (fun j a b => by omega) (fun v hv => zok_one (bytesV_plain s v hv))
    refine ⟨_, _, _, by simp only [hv.string]; exact hcap, ⟨hpost.sim.same (grown_heap w e s) rfl rfl rfl, hpost.ext, hpost.unt⟩, ?_⟩
    have := VR.sl (μ := upd μ h.n ⟨w.heap.size, 0, (Lib.bytesCells w e s).size⟩) h.n 0 s.size 1 (grownCap w s.size 0 e) _ (upd_same _ _) hge (by simp only [hsz]; omega)
    exact this
  · rename_i e c hs hd hp
    obtain ⟨he, hk⟩ := hk
    refine ⟨_, h, AIns.quiet (fun FB w0 μ σ w s' hx => ?_), hk⟩
    have hv := hx x (by simp); rw [hp] at hv
    generalize hcx : σ x = cx at hv
    cases hv with
    | plain _ hq => simp [isPlain] at hq
    | sl0 A' _ =>
      refine ⟨_, ?_, .plain _ rfl⟩
      rw [run_convert_bytes_string w src dst e A' 0 0 hs he hd]
      cases A' with
      | none => simp [Conv.bytesToString]
      | some a => simp [Conv.bytesToString, loadCells, loadCellsFrom]
  · rename_i e id off n c hs hd hp
    obtain ⟨he, hk⟩ := hk
    split at hk
    · rename_i l hl
      obtain ⟨vs, hvs, hb⟩ := Option.bind_eq_some_iff.1 hl
      refine ⟨_, h, AIns.quiet (fun FB w0 μ σ w s' hx => ?_), hk⟩
      have hv := hx x (by simp); rw [hp] at hv
      generalize hcx : σ x = cx at hv
      obtain ⟨ns, rfl, rfl⟩ := toBytes_nums hb
      cases hv with
      | plain _ hq => simp [isPlain] at hq
      | slz _ _ _ lc hm ho A' =>
        obtain ⟨cvs, e1, e2, e3⟩ := s'.read hm hvs
        have hns : ns = [] := by
          have := e1.1; simp at this
          exact List.eq_nil_of_length_eq_zero (by omega)
        subst hns
        refine ⟨_, ?_, .plain _ rfl⟩
        rw [run_convert_bytes_string w src dst e A' 0 0 hs he hd]
        cases A' with
        | none => simp [Conv.bytesToString]; rfl
        | some a => simp [Conv.bytesToString, loadCells, loadCellsFrom]; rfl
      | sl _ _ _ _ cap lc hm hn hr =>
        obtain ⟨cvs, e1, e2, e3⟩ := s'.read hm hvs
        have hc := toBytes_LR hb e1
        subst hc
        have hload := run_loadCells_list P w lc.b (lc.o + off) n (ns.map (Value.int .u8)) e2 e3
        refine ⟨_, ?_, .plain _ rfl⟩
        rw [run_convert_bytes_string w src dst e _ _ _ hs he hd, run_bytesToString w _ n cap ns hload, foldl_push]
        simp
    · exact hk.elim
  · exact hk.elim

/-! ### lengths, the least, the greatest, parts of a tuple -/
def alen (P : Program) (h : AH) (t : TypeId) (x : Value) (K : Value → Prop) : Prop :=
  match P.underlying t, x with
  | some .string, .string s => K (.int .i64 s.size)
  | some (.slice _), .slice _ n _ => K (.int .i64 n)
  | some (.map _ _), .map (some r) => (match h.ob r with | .map es => K (.int .i64 es.length) | _ => False)
  | _, _ => False
theorem VR.sliceOf {A : Option Addr} {n k : Nat} {c : Value} (hv : VR μ (.slice A n k) c) : ∃ A' cap, c = .slice A' n cap := by
  cases hv with
  | plain _ hq => simp [isPlain] at hq
  | sl => exact ⟨_, _, rfl⟩
  | slz => exact ⟨_, _, rfl⟩
  | sl0 => exact ⟨_, _, rfl⟩
theorem alen_sound {t ty : TypeId} {x : Operand} {ρ : Operand → Value} {K : Value → Prop} (hk : alen P h t (ρ x) K) :
    ∃ v, AIns P (fun σ => Builtin.len_ #[t] ty #[σ x]) [x] ρ h v h ∧ K v := by
  unfold alen at hk
  split at hk
  · rename_i s hu hp
    refine ⟨_, AIns.quiet (fun FB w0 μ σ w s' hx => ?_), hk⟩
    have hv := hx x (by simp); rw [hp] at hv
    exact ⟨_, by rw [hv.string]; exact run_len_string w t ty s hu, .plain _ rfl⟩
  · rename_i e A n k hu hp
    refine ⟨_, AIns.quiet (fun FB w0 μ σ w s' hx => ?_), hk⟩
    have hv := hx x (by simp); rw [hp] at hv
    obtain ⟨A', cap, hc⟩ := hv.sliceOf
    refine ⟨_, ?_, .plain _ rfl⟩
    rw [hc]; simp [Builtin.len_, run_underlying hu, goInt]
  · rename_i a b r hu hp
    split at hk
    · rename_i es ho
      refine ⟨_, AIns.quiet (fun FB w0 μ σ w s' hx => ?_), hk⟩
      have hv := hx x (by simp); rw [hp] at hv
      generalize hcx : σ x = cx at hv
      cases hv with
      | plain _ hq => simp [isPlain] at hq
      | map _ l hm =>
        obtain ⟨_, ents, clock, hb, hr⟩ := s'.mp r l es hm ho
        refine ⟨_, ?_, .plain _ rfl⟩
        simp [Builtin.len_, run_underlying hu, getObj, Sem.run, hb, goInt, hr.1]
    · exact hk.elim
  · exact hk.elim

def aminmax (mx : Bool) : List Value → Option Value
  | [.int k a, .int k' b] => if k = k' then some (.int k (if mx then max a b else min a b)) else none
  | [.int k a, .int k' b, .int k'' c] => if k = k' ∧ k = k'' then some (.int k (if mx then max (max a b) c else min (min a b) c)) else none
  | _ => none
theorem min2_int (P : Program) (w : World) (k : IntKind) (a b : Int) : (Builtin.min2 (.int k a) (.int k b)).run P w = .ok (.int k (min a b)) w := by
  simp only [Builtin.min2, Sem.run_pure]; congr 2; split <;> omega
theorem max2_int (P : Program) (w : World) (k : IntKind) (a b : Int) : (Builtin.max2 (.int k a) (.int k b)).run P w = .ok (.int k (max a b)) w := by
  simp only [Builtin.max2, Sem.run_pure]; congr 2; split <;> omega

theorem aminmax_run (P : Program) (w : World) (mx : Bool) (ts : Array TypeId) (ty : TypeId) {l : List Value} {v : Value} (e : aminmax mx l = some v) :
    isPlain v = true ∧ (∀ x ∈ l, isPlain x = true) ∧ (if mx then Builtin.max_ ts ty l.toArray else Builtin.min_ ts ty l.toArray).run P w = .ok v w := by
  unfold aminmax at e
  split at e
  · rename_i k a k' b
    split at e
    · rename_i hk; subst hk
      obtain rfl := Option.some.inj e
      refine ⟨rfl, by simp [isPlain], ?_⟩
      cases mx <;> simp [Builtin.max_, Builtin.min_, min2_int, max2_int]
    · cases e
  · rename_i k a k' b k'' c
    split at e
    · rename_i hk; obtain ⟨rfl, rfl⟩ := hk
      obtain rfl := Option.some.inj e
      refine ⟨rfl, by simp [isPlain], ?_⟩
      cases mx <;> simp [Builtin.max_, Builtin.min_, min2_int, max2_int]
    · cases e
  · cases e

def aextract (x : Value) (i : Nat) (K : Value → Prop) : Prop :=
  match x with
  | .tuple vs => (match vs[i]? with | some v => K v | none => False)
  | _ => False
theorem aextract_sound {x : Operand} {i : Nat} {ρ : Operand → Value} {K : Value → Prop} (hk : aextract (ρ x) i K) :
    ∃ v, AIns P (fun σ => Instr.extract (σ x) i) [x] ρ h v h ∧ K v := by
  unfold aextract at hk
  split at hk
  · rename_i vs hp
    split at hk
    · rename_i v hv
      refine ⟨v, AIns.quiet (fun FB w0 μ σ w s hx => ?_), hk⟩
      have hvr := hx x (by simp); rw [hp] at hvr
      obtain ⟨a', hc, ha⟩ := hvr.tupleOf
      obtain ⟨hb, rfl⟩ := Array.getElem?_eq_some_iff.1 hv
      have hb' : i < a'.size := by rw [← ha.1]; exact hb
      exact ⟨a'[i], by rw [hc]; simp [Instr.extract, hb'], ha.2 _ hb hb'⟩
    · exact hk.elim
  · exact hk.elim

end Go.Sim

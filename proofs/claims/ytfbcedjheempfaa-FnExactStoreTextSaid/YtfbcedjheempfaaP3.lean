/- Messages: what is told of one, and what is read. Conditions: those that each theorem names. -/
import Derived.Test.YtfbcedjheempfaaP2
set_option linter.unusedSimpArgs false
set_option linter.unusedVariables false
namespace Go.Sim
/-- What was read of a number is told by the bytes that were read. -/
theorem rvGo_vt (s : ByteArray) (a : Nat) : ∀ (k i n : Nat) (p : Nat × Nat), n = sumv (bl s a i) → (∀ b ∈ bl s a i, 127 < b ∧ b < 256) → rvGo s a k i n = some p → vt (p.1 : Int) = s.extract a p.2
  | 0, i, n, p, _, _, h => by cases h
  | k + 1, i, n, p, hn, hall, h => by
    rw [rvGo] at h
    split at h
    · rename_i hlt
      have hv : n + bN s (a + i) % 128 * 128 ^ i = sumv (bl s a (i + 1)) := by rw [bl_succ, sumv_snoc, bl_len, hn]
      split at h
      · rename_i hc
        refine rvGo_vt s a k (i + 1) _ p hv (fun b hb => ?_) h
        rw [bl_succ, List.mem_append, List.mem_singleton] at hb
        rcases hb with hb | hb
        · exact hall b hb
        · rw [hb]; exact ⟨hc, bN_lt _ _⟩
      · rename_i hc
        split at h
        · cases h
        · rename_i hne
          cases h
          show (⟨((var ((n + bN s (a + i) % 128 * 128 ^ i : Nat) : Int).toNat).map UInt8.ofNat).toArray⟩ : ByteArray) = s.extract a (a + i + 1)
          rw [Int.toNat_natCast]
          refine (vt_eq _ s a (i + 1) (by omega)).2 ?_
          rw [hv, bl_succ]
          refine var_sum _ (by omega) _ hall ?_
          by_cases h0 : bN s (a + i) = 0
          · right
            have : i = 0 := by omega
            rw [this]; rfl
          · exact .inl h0
    · cases h
theorem rv_vt {s : ByteArray} {a : Nat} {p : Nat × Nat} (h : rv s (a : Int) = some p) : vt (p.1 : Int) = s.extract a p.2 := by
  unfold rv at h
  split at h
  · rw [Int.toNat_natCast] at h
    exact rvGo_vt s a 5 0 0 p rfl (by simp [bl]) h
  · cases h
theorem var_len : ∀ (k m : Nat), m < 128 ^ (k + 1) → (var m).length ≤ k + 1
  | 0, m, h => by rw [var, if_pos (by omega)]; simp
  | k + 1, m, h => by
    rw [var]
    split
    · simp
    · have : (var (m / 128)).length ≤ k + 1 := var_len k (m / 128) (by
        rw [Nat.div_lt_iff_lt_mul (by omega)]
        rw [Nat.pow_succ] at h; exact h)
      simp only [List.length_cons]; omega
theorem vt_size {n : Int} (h : n ≤ 1000000000) : (vt n).size ≤ 5 := by
  have h5 : n.toNat < 128 ^ (4 + 1) := by omega
  have := var_len 4 n.toNat h5
  simpa [vt, ByteArray.size] using this
theorem extract_app (s : ByteArray) (a b c : Nat) (h1 : a ≤ b) (h2 : b ≤ c) : s.extract a b ++ s.extract b c = s.extract a c := by
  rw [ByteArray.extract_append_extract, Nat.min_eq_left h1, Nat.max_eq_right h2]
theorem extract_all (s : ByteArray) : s.extract 0 s.size = s := by simp
structure Msg where
  kind : Int
  worker : Int
  task : Int
  try_ : Int
  body : ByteArray
  deriving DecidableEq
def Msg.v (m : Msg) : Value := .agg #[.int .i64 m.kind, .int .i64 m.worker, .int .i64 m.task, .int .i64 m.try_, .string m.body]
def msgOk (m : Msg) : Bool := inB m.kind 1 4 && inB m.worker 1 3 && inB m.task 0 20 && inB m.try_ 0 1000000000 && decide ((m.body.size : Int) ≤ 15000) && (decide (m.body = ⟨#[]⟩) || decide (m.kind = 2) || decide (m.kind = 3))
def msgBytes (m : Msg) : ByteArray := (⟨#[UInt8.ofNat (IntKind.u8.wrap m.kind).toNat, UInt8.ofNat (IntKind.u8.wrap m.worker).toNat]⟩ : ByteArray) ++ vt m.task ++ vt m.try_ ++ m.body
def msgText (m : Msg) : ByteArray := if msgOk m = true then sealT (msgBytes m) else ⟨#[]⟩
theorem msgOk_ (m : Msg) (h : msgOk m = true) : (1 ≤ m.kind ∧ m.kind ≤ 4) ∧ (1 ≤ m.worker ∧ m.worker ≤ 3) ∧ (0 ≤ m.task ∧ m.task ≤ 20) ∧ (0 ≤ m.try_ ∧ m.try_ ≤ 1000000000) ∧ (m.body.size : Int) ≤ 15000 := by
  simp only [msgOk, inB, Bool.and_eq_true, decide_eq_true_eq] at h
  omega
theorem msgBytes_size (m : Msg) (h : msgOk m = true) : (msgBytes m).size ≤ 15012 := by
  obtain ⟨_, _, h1, h2, h3⟩ := msgOk_ m h
  have z1 := vt_size (n := m.task) (by omega)
  have z2 := vt_size (n := m.try_) (by omega)
  have z0 : (⟨#[UInt8.ofNat (IntKind.u8.wrap m.kind).toNat, UInt8.ofNat (IntKind.u8.wrap m.worker).toNat]⟩ : ByteArray).size = 2 := rfl
  simp only [msgBytes, ByteArray.size_append, z0]
  omega
def unsealT (t : ByteArray) : Option ByteArray := if t.size < 4 then none else if t.size - 4 ≤ 20000 ∧ sealT (t.extract 0 (t.size - 4)) = t then some (t.extract 0 (t.size - 4)) else none
theorem unsealT_some {t s : ByteArray} (h : unsealT t = some s) : sealT s = t ∧ s.size ≤ 20000 := by
  unfold unsealT at h
  split at h
  · cases h
  · split at h
    · rename_i hc
      cases h
      refine ⟨hc.2, ?_⟩
      simp only [ByteArray.size_extract]; omega
    · cases h
theorem app_eq_iff {a b t : ByteArray} (ha : a = t.extract 0 a.size) (h : t.size = a.size + b.size) : a ++ b = t ↔ t.extract a.size t.size = b := by
  constructor
  · intro e
    have : t.extract a.size t.size = (a ++ b).extract a.size (a ++ b).size := by rw [e]
    rw [this, ByteArray.size_append]; first | exact ByteArray.extract_append_eq_right rfl rfl | simp
  · intro e
    rw [← e]
    conv => lhs; lhs; rw [ha]
    rw [extract_app t 0 a.size t.size (by omega) (by omega), extract_all]
theorem seal_iff {t : ByteArray} (h4 : ¬ t.size < 4) : sealT (t.extract 0 (t.size - 4)) = t ↔ t.extract (t.size - 4) t.size = four (crc (t.extract 0 (t.size - 4))) := by
  have hs : (t.extract 0 (t.size - 4)).size = t.size - 4 := by simp only [ByteArray.size_extract]; omega
  have := app_eq_iff (a := t.extract 0 (t.size - 4)) (b := four (crc (t.extract 0 (t.size - 4)))) (t := t) (by rw [hs]) (by rw [hs, four_size]; omega)
  rw [hs] at this
  exact this
def readMsg (t : ByteArray) : Option Msg := match unsealT t with
  | none => none
  | some s => if s.size < 2 then none else match rv s 2 with
    | none => none
    | some p => match rv s (p.2 : Nat) with
      | none => none
      | some q => if msgOk ⟨bN s 0, bN s 1, p.1, q.1, s.extract q.2 s.size⟩ then some ⟨bN s 0, bN s 1, p.1, q.1, s.extract q.2 s.size⟩ else none
def msg0 : Msg := ⟨0, 0, 0, 0, ⟨#[]⟩⟩
theorem head2 (s : ByteArray) (h : 2 ≤ s.size) : (⟨#[UInt8.ofNat (bN s 0), UInt8.ofNat (bN s 1)]⟩ : ByteArray) = s.extract 0 2 := by
  rw [show (2 : Nat) = 0 + 2 from rfl, extract_bl s 0 2 (by omega)]
  simp [bl, List.range_succ]
/-- What was read is told by the text that was read. -/
theorem msg_back {s : ByteArray} (h2 : 2 ≤ s.size) {p q : Nat × Nat} (hp : rv s ((2 : Nat) : Int) = some p) (hq : rv s (p.2 : Nat) = some q) : msgBytes ⟨bN s 0, bN s 1, p.1, q.1, s.extract q.2 s.size⟩ = s := by
  have e1 := rv_some hp
  have e2 := rv_some hq
  simp only [msgBytes]
  rw [u8_ofNat, u8_ofNat, head2 s h2, rv_vt hp, rv_vt hq, extract_app s 0 2 p.2 (by omega) (by omega), extract_app s 0 p.2 q.2 (by omega) (by omega), extract_app s 0 q.2 s.size (by omega) (by omega), extract_all]
end Go.Sim

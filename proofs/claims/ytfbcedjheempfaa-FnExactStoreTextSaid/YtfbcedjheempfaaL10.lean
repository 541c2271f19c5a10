/- A part of the proof of the row: contracts of functions that it reaches. Conditions: those that each theorem names. -/
import Derived.Test.YtfbcedjheempfaaL9
namespace Go.Proofs.Ytfbcedjheempfaa
open Go Go.Sim Go.Proofs
set_option linter.unusedSimpArgs false
set_option linter.unusedVariables false
set_option maxRecDepth 100000
set_option maxHeartbeats 1000000
theorem one_bad (p : Nat) (s : ByteArray) (a : Nat) (hs : s.size ≤ maxLen - 16) (h : AH) (e : h.ob p = rdOb p s a true) :
    CD Try.prog 67 [.pointer (some ⟨p, 0, none⟩)] h (.int .i64 0) (h.set p (rdOb p s a true)) := by
  have := one_c p s a true hs h e
  simpa using this
theorem one_ok (p : Nat) (s : ByteArray) (a : Nat) (hs : s.size ≤ maxLen - 16) (ha : a < s.size) (h : AH) (e : h.ob p = rdOb p s a false) :
    CD Try.prog 67 [.pointer (some ⟨p, 0, none⟩)] h (.int .i64 (bN s a : Nat)) (h.set p (rdOb p s (a + 1) false)) := by
  have := one_c p s a false hs h e
  simpa [ha] using this
theorem one_end (p : Nat) (s : ByteArray) (a : Nat) (hs : s.size ≤ maxLen - 16) (ha : ¬ a < s.size) (h : AH) (e : h.ob p = rdOb p s a false) :
    CD Try.prog 67 [.pointer (some ⟨p, 0, none⟩)] h (.int .i64 0) (h.set p (rdOb p s a true)) := by
  have := one_c p s a false hs h e
  simpa [ha] using this
theorem number_bad (p : Nat) (s : ByteArray) (a : Nat) (hs : s.size ≤ maxLen - 16) (h : AH) (e : h.ob p = rdOb p s a true) :
    CD Try.prog 68 [.pointer (some ⟨p, 0, none⟩)] h (.int .i64 0) (h.set p (rdOb p s a true)) := by
  have := number_c p s a true hs h e
  simpa [oN, nxN] using this
theorem number_none (p : Nat) (s : ByteArray) (a : Nat) (hs : s.size ≤ maxLen - 16) (h : AH) (hr : rv s a = none) (e : h.ob p = rdOb p s a false) :
    CD Try.prog 68 [.pointer (some ⟨p, 0, none⟩)] h (.int .i64 0) (h.set p (rdOb p s a true)) := by
  have := number_c p s a false hs h e
  simpa [oN, nxN, hr] using this
theorem number_some (p : Nat) (s : ByteArray) (a : Nat) (q : Nat × Nat) (hs : s.size ≤ maxLen - 16) (h : AH) (hr : rv s a = some q) (e : h.ob p = rdOb p s a false) :
    CD Try.prog 68 [.pointer (some ⟨p, 0, none⟩)] h (.int .i64 (q.1 : Nat)) (h.set p (rdOb p s q.2 false)) := by
  have := number_c p s a false hs h e
  simpa [oN, nxN, hr] using this
theorem l07Var_bad (p : Nat) (s : ByteArray) (a : Nat) (hs : s.size ≤ maxLen - 16) (h : AH) (e : h.ob p = rdOb p s a true) :
    CD Try.prog 65 [.pointer (some ⟨p, 0, none⟩)] h (.int .i64 0) (h.set p (rdOb p s a true)) := by
  have := l07Var_c p s a true hs h e
  simpa [oN, nxN] using this
theorem l07Var_none (p : Nat) (s : ByteArray) (a : Nat) (hs : s.size ≤ maxLen - 16) (h : AH) (hr : rv s a = none) (e : h.ob p = rdOb p s a false) :
    CD Try.prog 65 [.pointer (some ⟨p, 0, none⟩)] h (.int .i64 0) (h.set p (rdOb p s a true)) := by
  have := l07Var_c p s a false hs h e
  simpa [oN, nxN, hr] using this
theorem l07Var_some (p : Nat) (s : ByteArray) (a : Nat) (q : Nat × Nat) (hs : s.size ≤ maxLen - 16) (h : AH) (hr : rv s a = some q) (e : h.ob p = rdOb p s a false) :
    CD Try.prog 65 [.pointer (some ⟨p, 0, none⟩)] h (.int .i64 (q.1 : Nat)) (h.set p (rdOb p s q.2 false)) := by
  have := l07Var_c p s a false hs h e
  simpa [oN, nxN, hr] using this
def msgR (r : Option Msg) : Value := .tuple #[(r.getD msg0).v, .bool r.isSome]
theorem ReadMessage_i (t : ByteArray) (hs : t.size ≤ maxLen - 16) (h : AH) : CD Try.prog 31 [.string t] h (.tuple #[((readMsg t).getD msg0).v, .bool (readMsg t).isSome]) h := by
  refine CD.quiet ?_ (low_tuple (by simp [low_bool]; exact low_agg (by simp [low_int, low_string])))
  have hm := maxLen_eq
  have hU := Unsealed_i t (by omega)
  rcases hu : unsealT t with _ | s
  · have e0 : readMsg t = none := by simp [readMsg, hu]
    rw [hu] at hU
    have hz : (⟨#[]⟩ : ByteArray).size ≤ maxLen - 16 := by show 0 ≤ _; omega
    rw [e0]
    simp only [Option.getD_none, Option.isSome_none, Msg.v, msg0] at hU ⊢
    refine CC.ofN Try.func31 Try.ntmps31 Try.results31 rfl (by decide) (by kernel_rfl) ?_
    simp -implicitDefEqProofs only [push_cast, seval]
    repeat' (first | with_reducible (first | exact Keep.refl _ _ | assumption | exact byte_lt _ _ | apply Keep.alloc | (refine Keep.set ?_ ?_; rotate_left; · omega) | apply Pre.alloc | apply Pre.set | exact Pre.refl _ | exact le_alloc _ | (refine Pre.keep ?_; assumption) | (refine Pre.n ?_; assumption)) | ((with_reducible (first | refine CD.to (hU _) ?_ | refine CQ.pure (fun _ => hU _) ?_ | refine bcase_d (fun hb => ?_) (fun hb => ?_) | refine bcase_mk (fun hb => ?_) (fun hb => ?_))) <;> try simp -implicitDefEqProofs only [push_cast, seval]) | with_reducible refine And.intro ?_ ?_ | omega | (simp only [alloc_n, set_n, kill_n]; omega) | (exfalso; omega))
    with_reducible refine CD.to (one_bad _ _ 0 hz _ (by (try simp -implicitDefEqProofs only [push_cast, seval, rdOb]); try rfl)) ?_
    simp -implicitDefEqProofs only [push_cast, seval, rdOb]
    with_reducible refine CD.to (one_bad _ _ 0 hz _ (by (try simp -implicitDefEqProofs only [push_cast, seval, rdOb]); try rfl)) ?_
    simp -implicitDefEqProofs only [push_cast, seval, rdOb]
    with_reducible refine CD.to (number_bad _ _ 0 hz _ (by (try simp -implicitDefEqProofs only [push_cast, seval, rdOb]); try rfl)) ?_
    simp -implicitDefEqProofs only [push_cast, seval, rdOb]
    with_reducible refine CD.to (number_bad _ _ 0 hz _ (by (try simp -implicitDefEqProofs only [push_cast, seval, rdOb]); try rfl)) ?_
    simp -implicitDefEqProofs only [push_cast, seval, rdOb]
    repeat' (first | with_reducible (first | exact Keep.refl _ _ | assumption | exact byte_lt _ _ | apply Keep.alloc | (refine Keep.set ?_ ?_; rotate_left; · omega) | apply Pre.alloc | apply Pre.set | exact Pre.refl _ | exact le_alloc _ | (refine Pre.keep ?_; assumption) | (refine Pre.n ?_; assumption)) | ((with_reducible (first | refine bcase_d (fun hb => ?_) (fun hb => ?_) | refine bcase_mk (fun hb => ?_) (fun hb => ?_))) <;> try simp -implicitDefEqProofs only [push_cast, seval]) | with_reducible refine And.intro ?_ ?_ | omega | (simp only [alloc_n, set_n, kill_n]; omega) | (exfalso; omega))
  · rw [hu] at hU
    have hz0 := (unsealT_some hu).2
    have hz : s.size ≤ maxLen - 16 := by omega
    simp only [Option.getD_some, Option.isSome_some] at hU
    by_cases h0 : s.size = 0
    · have e0 : readMsg t = none := by simp [readMsg, hu, h0]
      rw [e0]
      simp only [Option.getD_none, Option.isSome_none, Msg.v, msg0]
      refine CC.ofN Try.func31 Try.ntmps31 Try.results31 rfl (by decide) (by kernel_rfl) ?_
      simp -implicitDefEqProofs only [push_cast, seval]
      repeat' (first | with_reducible (first | exact Keep.refl _ _ | assumption | exact byte_lt _ _ | apply Keep.alloc | (refine Keep.set ?_ ?_; rotate_left; · omega) | apply Pre.alloc | apply Pre.set | exact Pre.refl _ | exact le_alloc _ | (refine Pre.keep ?_; assumption) | (refine Pre.n ?_; assumption)) | ((with_reducible (first | refine CD.to (hU _) ?_ | refine CQ.pure (fun _ => hU _) ?_ | refine bcase_d (fun hb => ?_) (fun hb => ?_) | refine bcase_mk (fun hb => ?_) (fun hb => ?_))) <;> try simp -implicitDefEqProofs only [push_cast, seval]) | with_reducible refine And.intro ?_ ?_ | omega | (simp only [alloc_n, set_n, kill_n]; omega) | (exfalso; omega))
      with_reducible refine CD.to (one_end _ _ 0 hz (by omega) _ (by (try simp -implicitDefEqProofs only [push_cast, seval, rdOb]); try rfl)) ?_
      simp -implicitDefEqProofs only [push_cast, seval, rdOb]
      with_reducible refine CD.to (one_bad _ _ 0 hz _ (by (try simp -implicitDefEqProofs only [push_cast, seval, rdOb]); try rfl)) ?_
      simp -implicitDefEqProofs only [push_cast, seval, rdOb]
      with_reducible refine CD.to (number_bad _ _ 0 hz _ (by (try simp -implicitDefEqProofs only [push_cast, seval, rdOb]); try rfl)) ?_
      simp -implicitDefEqProofs only [push_cast, seval, rdOb]
      with_reducible refine CD.to (number_bad _ _ 0 hz _ (by (try simp -implicitDefEqProofs only [push_cast, seval, rdOb]); try rfl)) ?_
      simp -implicitDefEqProofs only [push_cast, seval, rdOb]
      repeat' (first | with_reducible (first | exact Keep.refl _ _ | assumption | exact byte_lt _ _ | apply Keep.alloc | (refine Keep.set ?_ ?_; rotate_left; · omega) | apply Pre.alloc | apply Pre.set | exact Pre.refl _ | exact le_alloc _ | (refine Pre.keep ?_; assumption) | (refine Pre.n ?_; assumption)) | ((with_reducible (first | refine bcase_d (fun hb => ?_) (fun hb => ?_) | refine bcase_mk (fun hb => ?_) (fun hb => ?_))) <;> try simp -implicitDefEqProofs only [push_cast, seval]) | with_reducible refine And.intro ?_ ?_ | omega | (simp only [alloc_n, set_n, kill_n]; omega) | (exfalso; omega))
    by_cases h1 : s.size = 1
    · have e0 : readMsg t = none := by simp [readMsg, hu, h1]
      rw [e0]
      simp only [Option.getD_none, Option.isSome_none, Msg.v, msg0]
      refine CC.ofN Try.func31 Try.ntmps31 Try.results31 rfl (by decide) (by kernel_rfl) ?_
      simp -implicitDefEqProofs only [push_cast, seval]
      repeat' (first | with_reducible (first | exact Keep.refl _ _ | assumption | exact byte_lt _ _ | apply Keep.alloc | (refine Keep.set ?_ ?_; rotate_left; · omega) | apply Pre.alloc | apply Pre.set | exact Pre.refl _ | exact le_alloc _ | (refine Pre.keep ?_; assumption) | (refine Pre.n ?_; assumption)) | ((with_reducible (first | refine CD.to (hU _) ?_ | refine CQ.pure (fun _ => hU _) ?_ | refine bcase_d (fun hb => ?_) (fun hb => ?_) | refine bcase_mk (fun hb => ?_) (fun hb => ?_))) <;> try simp -implicitDefEqProofs only [push_cast, seval]) | with_reducible refine And.intro ?_ ?_ | omega | (simp only [alloc_n, set_n, kill_n]; omega) | (exfalso; omega))
      with_reducible refine CD.to (one_ok _ _ 0 hz (by omega) _ (by (try simp -implicitDefEqProofs only [push_cast, seval, rdOb]); try rfl)) ?_
      simp -implicitDefEqProofs only [push_cast, seval, rdOb]
      with_reducible refine CD.to (one_end _ _ 1 hz (by omega) _ (by (try simp -implicitDefEqProofs only [push_cast, seval, rdOb]); try rfl)) ?_
      simp -implicitDefEqProofs only [push_cast, seval, rdOb]
      with_reducible refine CD.to (number_bad _ _ 1 hz _ (by (try simp -implicitDefEqProofs only [push_cast, seval, rdOb]); try rfl)) ?_
      simp -implicitDefEqProofs only [push_cast, seval, rdOb]
      with_reducible refine CD.to (number_bad _ _ 1 hz _ (by (try simp -implicitDefEqProofs only [push_cast, seval, rdOb]); try rfl)) ?_
      simp -implicitDefEqProofs only [push_cast, seval, rdOb]
      repeat' (first | with_reducible (first | exact Keep.refl _ _ | assumption | exact byte_lt _ _ | apply Keep.alloc | (refine Keep.set ?_ ?_; rotate_left; · omega) | apply Pre.alloc | apply Pre.set | exact Pre.refl _ | exact le_alloc _ | (refine Pre.keep ?_; assumption) | (refine Pre.n ?_; assumption)) | ((with_reducible (first | refine bcase_d (fun hb => ?_) (fun hb => ?_) | refine bcase_mk (fun hb => ?_) (fun hb => ?_))) <;> try simp -implicitDefEqProofs only [push_cast, seval]) | with_reducible refine And.intro ?_ ?_ | omega | (simp only [alloc_n, set_n, kill_n]; omega) | (exfalso; omega))
    have h2 : ¬ s.size < 2 := by omega
    rcases hp : rv s ((2 : Nat) : Int) with _ | p
    · have e0 : readMsg t = none := by
        have hp' : rv s 2 = none := hp
        simp [readMsg, hu, h2, hp']
      rw [e0]
      simp only [Option.getD_none, Option.isSome_none, Msg.v, msg0]
      refine CC.ofN Try.func31 Try.ntmps31 Try.results31 rfl (by decide) (by kernel_rfl) ?_
      simp -implicitDefEqProofs only [push_cast, seval]
      repeat' (first | with_reducible (first | exact Keep.refl _ _ | assumption | exact byte_lt _ _ | apply Keep.alloc | (refine Keep.set ?_ ?_; rotate_left; · omega) | apply Pre.alloc | apply Pre.set | exact Pre.refl _ | exact le_alloc _ | (refine Pre.keep ?_; assumption) | (refine Pre.n ?_; assumption)) | ((with_reducible (first | refine CD.to (hU _) ?_ | refine CQ.pure (fun _ => hU _) ?_ | refine bcase_d (fun hb => ?_) (fun hb => ?_) | refine bcase_mk (fun hb => ?_) (fun hb => ?_))) <;> try simp -implicitDefEqProofs only [push_cast, seval]) | with_reducible refine And.intro ?_ ?_ | omega | (simp only [alloc_n, set_n, kill_n]; omega) | (exfalso; omega))
      with_reducible refine CD.to (one_ok _ _ 0 hz (by omega) _ (by (try simp -implicitDefEqProofs only [push_cast, seval, rdOb]); try rfl)) ?_
      simp -implicitDefEqProofs only [push_cast, seval, rdOb]
      with_reducible refine CD.to (one_ok _ _ 1 hz (by omega) _ (by (try simp -implicitDefEqProofs only [push_cast, seval, rdOb]); try rfl)) ?_
      simp -implicitDefEqProofs only [push_cast, seval, rdOb]
      with_reducible refine CD.to (number_none _ _ 2 hz _ hp (by (try simp -implicitDefEqProofs only [push_cast, seval, rdOb]); try rfl)) ?_
      simp -implicitDefEqProofs only [push_cast, seval, rdOb]
      with_reducible refine CD.to (number_bad _ _ 2 hz _ (by (try simp -implicitDefEqProofs only [push_cast, seval, rdOb]); try rfl)) ?_
      simp -implicitDefEqProofs only [push_cast, seval, rdOb]
      repeat' (first | with_reducible (first | exact Keep.refl _ _ | assumption | exact byte_lt _ _ | apply Keep.alloc | (refine Keep.set ?_ ?_; rotate_left; · omega) | apply Pre.alloc | apply Pre.set | exact Pre.refl _ | exact le_alloc _ | (refine Pre.keep ?_; assumption) | (refine Pre.n ?_; assumption)) | ((with_reducible (first | refine bcase_d (fun hb => ?_) (fun hb => ?_) | refine bcase_mk (fun hb => ?_) (fun hb => ?_))) <;> try simp -implicitDefEqProofs only [push_cast, seval]) | with_reducible refine And.intro ?_ ?_ | omega | (simp only [alloc_n, set_n, kill_n]; omega) | (exfalso; omega))
    rcases hq : rv s ((p.2 : Nat) : Int) with _ | q
    · have e0 : readMsg t = none := by
        have hp' : rv s 2 = some p := hp
        simp [readMsg, hu, h2, hp', hq]
      rw [e0]
      simp only [Option.getD_none, Option.isSome_none, Msg.v, msg0]
      refine CC.ofN Try.func31 Try.ntmps31 Try.results31 rfl (by decide) (by kernel_rfl) ?_
      simp -implicitDefEqProofs only [push_cast, seval]
      repeat' (first | with_reducible (first | exact Keep.refl _ _ | assumption | exact byte_lt _ _ | apply Keep.alloc | (refine Keep.set ?_ ?_; rotate_left; · omega) | apply Pre.alloc | apply Pre.set | exact Pre.refl _ | exact le_alloc _ | (refine Pre.keep ?_; assumption) | (refine Pre.n ?_; assumption)) | ((with_reducible (first | refine CD.to (hU _) ?_ | refine CQ.pure (fun _ => hU _) ?_ | refine bcase_d (fun hb => ?_) (fun hb => ?_) | refine bcase_mk (fun hb => ?_) (fun hb => ?_))) <;> try simp -implicitDefEqProofs only [push_cast, seval]) | with_reducible refine And.intro ?_ ?_ | omega | (simp only [alloc_n, set_n, kill_n]; omega) | (exfalso; omega))
      with_reducible refine CD.to (one_ok _ _ 0 hz (by omega) _ (by (try simp -implicitDefEqProofs only [push_cast, seval, rdOb]); try rfl)) ?_
      simp -implicitDefEqProofs only [push_cast, seval, rdOb]
      with_reducible refine CD.to (one_ok _ _ 1 hz (by omega) _ (by (try simp -implicitDefEqProofs only [push_cast, seval, rdOb]); try rfl)) ?_
      simp -implicitDefEqProofs only [push_cast, seval, rdOb]
      with_reducible refine CD.to (number_some _ _ 2 p hz _ hp (by (try simp -implicitDefEqProofs only [push_cast, seval, rdOb]); try rfl)) ?_
      simp -implicitDefEqProofs only [push_cast, seval, rdOb]
      with_reducible refine CD.to (number_none _ _ p.2 hz _ hq (by (try simp -implicitDefEqProofs only [push_cast, seval, rdOb]); try rfl)) ?_
      simp -implicitDefEqProofs only [push_cast, seval, rdOb]
      repeat' (first | with_reducible (first | exact Keep.refl _ _ | assumption | exact byte_lt _ _ | apply Keep.alloc | (refine Keep.set ?_ ?_; rotate_left; · omega) | apply Pre.alloc | apply Pre.set | exact Pre.refl _ | exact le_alloc _ | (refine Pre.keep ?_; assumption) | (refine Pre.n ?_; assumption)) | ((with_reducible (first | refine bcase_d (fun hb => ?_) (fun hb => ?_) | refine bcase_mk (fun hb => ?_) (fun hb => ?_))) <;> try simp -implicitDefEqProofs only [push_cast, seval]) | with_reducible refine And.intro ?_ ?_ | omega | (simp only [alloc_n, set_n, kill_n]; omega) | (exfalso; omega))
    · have e0 : readMsg t = if msgOk ⟨bN s 0, bN s 1, p.1, q.1, s.extract q.2 s.size⟩ then some ⟨bN s 0, bN s 1, p.1, q.1, s.extract q.2 s.size⟩ else none := by
        have hp' : rv s 2 = some p := hp
        simp [readMsg, hu, h2, hp', hq]
      have hx := rv_some hq
      have hM := MessageOk_i ⟨bN s 0, bN s 1, p.1, q.1, s.extract q.2 s.size⟩
      simp only [Msg.v] at hM
      rw [e0]
      refine CC.ofN Try.func31 Try.ntmps31 Try.results31 rfl (by decide) (by kernel_rfl) ?_
      simp -implicitDefEqProofs only [push_cast, seval]
      repeat' (first | with_reducible (first | exact Keep.refl _ _ | assumption | exact byte_lt _ _ | apply Keep.alloc | (refine Keep.set ?_ ?_; rotate_left; · omega) | apply Pre.alloc | apply Pre.set | exact Pre.refl _ | exact le_alloc _ | (refine Pre.keep ?_; assumption) | (refine Pre.n ?_; assumption)) | ((with_reducible (first | refine CD.to (hU _) ?_ | refine CQ.pure (fun _ => hU _) ?_ | refine bcase_d (fun hb => ?_) (fun hb => ?_) | refine bcase_mk (fun hb => ?_) (fun hb => ?_))) <;> try simp -implicitDefEqProofs only [push_cast, seval]) | with_reducible refine And.intro ?_ ?_ | omega | (simp only [alloc_n, set_n, kill_n]; omega) | (exfalso; omega))
      with_reducible refine CD.to (one_ok _ _ 0 hz (by omega) _ (by (try simp -implicitDefEqProofs only [push_cast, seval, rdOb]); try rfl)) ?_
      simp -implicitDefEqProofs only [push_cast, seval, rdOb]
      with_reducible refine CD.to (one_ok _ _ 1 hz (by omega) _ (by (try simp -implicitDefEqProofs only [push_cast, seval, rdOb]); try rfl)) ?_
      simp -implicitDefEqProofs only [push_cast, seval, rdOb]
      with_reducible refine CD.to (number_some _ _ 2 p hz _ hp (by (try simp -implicitDefEqProofs only [push_cast, seval, rdOb]); try rfl)) ?_
      simp -implicitDefEqProofs only [push_cast, seval, rdOb]
      with_reducible refine CD.to (number_some _ _ p.2 q hz _ hq (by (try simp -implicitDefEqProofs only [push_cast, seval, rdOb]); try rfl)) ?_
      simp -implicitDefEqProofs only [push_cast, seval, rdOb]
      repeat' (first | with_reducible (first | exact Keep.refl _ _ | assumption | exact byte_lt _ _ | apply Keep.alloc | (refine Keep.set ?_ ?_; rotate_left; · omega) | apply Pre.alloc | apply Pre.set | exact Pre.refl _ | exact le_alloc _ | (refine Pre.keep ?_; assumption) | (refine Pre.n ?_; assumption)) | ((with_reducible (first | refine CD.to (hM _) ?_ | refine CQ.pure (fun _ => hM _) ?_ | refine bcase_d (fun hb => ?_) (fun hb => ?_) | refine bcase_mk (fun hb => ?_) (fun hb => ?_))) <;> try simp -implicitDefEqProofs only [push_cast, seval]) | with_reducible refine And.intro ?_ ?_ | omega | (simp only [alloc_n, set_n, kill_n]; omega) | (exfalso; omega))
      all_goals simp [hb, Msg.v, msg0]
theorem ReadMessage_s (t : ByteArray) (hs : t.size ≤ maxLen - 16) (h : AH) : CD Try.prog 30 [.string t] h (.tuple #[((readMsg t).getD msg0).v, .bool (readMsg t).isSome]) h := by
  refine CD.quiet ?_ (low_tuple (by simp [low_bool]; exact low_agg (by simp [low_int, low_string])))
  have hm := maxLen_eq
  have hU := Unsealed_s t (by omega)
  rcases hu : unsealT t with _ | s
  · have e0 : readMsg t = none := by simp [readMsg, hu]
    rw [hu] at hU
    rw [e0]
    simp only [Option.getD_none, Option.isSome_none, Msg.v, msg0] at hU ⊢
    refine CC.ofN Try.func30 Try.ntmps30 Try.results30 rfl (by decide) (by kernel_rfl) ?_
    simp -implicitDefEqProofs only [push_cast, seval]
    repeat' (first | with_reducible (first | exact Keep.refl _ _ | assumption | exact byte_lt _ _ | apply Keep.alloc | (refine Keep.set ?_ ?_; rotate_left; · omega) | apply Pre.alloc | apply Pre.set | exact Pre.refl _ | exact le_alloc _ | (refine Pre.keep ?_; assumption) | (refine Pre.n ?_; assumption)) | ((with_reducible (first | refine CD.to (hU _) ?_ | refine CQ.pure (fun _ => hU _) ?_ | refine bcase_d (fun hb => ?_) (fun hb => ?_) | refine bcase_mk (fun hb => ?_) (fun hb => ?_))) <;> try simp -implicitDefEqProofs only [push_cast, seval]) | with_reducible refine And.intro ?_ ?_ | omega | (simp only [alloc_n, set_n, kill_n]; omega) | (exfalso; omega))
  · rw [hu] at hU
    have hz0 := (unsealT_some hu).2
    have hz : s.size ≤ maxLen - 16 := by omega
    simp only [Option.getD_some, Option.isSome_some] at hU
    by_cases h2 : s.size < 2
    · have e0 : readMsg t = none := by simp [readMsg, hu, h2]
      rw [e0]
      simp only [Option.getD_none, Option.isSome_none, Msg.v, msg0]
      refine CC.ofN Try.func30 Try.ntmps30 Try.results30 rfl (by decide) (by kernel_rfl) ?_
      simp -implicitDefEqProofs only [push_cast, seval]
      repeat' (first | with_reducible (first | exact Keep.refl _ _ | assumption | exact byte_lt _ _ | apply Keep.alloc | (refine Keep.set ?_ ?_; rotate_left; · omega) | apply Pre.alloc | apply Pre.set | exact Pre.refl _ | exact le_alloc _ | (refine Pre.keep ?_; assumption) | (refine Pre.n ?_; assumption)) | ((with_reducible (first | refine CD.to (hU _) ?_ | refine CQ.pure (fun _ => hU _) ?_ | refine bcase_d (fun hb => ?_) (fun hb => ?_) | refine bcase_mk (fun hb => ?_) (fun hb => ?_))) <;> try simp -implicitDefEqProofs only [push_cast, seval]) | with_reducible refine And.intro ?_ ?_ | omega | (simp only [alloc_n, set_n, kill_n]; omega) | (exfalso; omega))
    have eb0 : ((byteAt s 0).toNat : Int) = (bN s 0 : Nat) := rfl
    have eb1 : ((byteAt s 1).toNat : Int) = (bN s 1 : Nat) := rfl
    have w0 : IntKind.i64.wrap ((bN s 0 : Nat) : Int) = (bN s 0 : Nat) := wrapNat (by have := bN_lt s 0; omega)
    have w1 : IntKind.i64.wrap ((bN s 1 : Nat) : Int) = (bN s 1 : Nat) := wrapNat (by have := bN_lt s 1; omega)
    rcases hp : rv s ((2 : Nat) : Int) with _ | p
    · have e0 : readMsg t = none := by
        have hp' : rv s 2 = none := hp
        simp [readMsg, hu, h2, hp']
      rw [e0]
      simp only [Option.getD_none, Option.isSome_none, Msg.v, msg0]
      refine CC.ofN Try.func30 Try.ntmps30 Try.results30 rfl (by decide) (by kernel_rfl) ?_
      simp -implicitDefEqProofs only [push_cast, seval]
      repeat' (first | with_reducible (first | exact Keep.refl _ _ | assumption | exact byte_lt _ _ | apply Keep.alloc | (refine Keep.set ?_ ?_; rotate_left; · omega) | apply Pre.alloc | apply Pre.set | exact Pre.refl _ | exact le_alloc _ | (refine Pre.keep ?_; assumption) | (refine Pre.n ?_; assumption)) | ((with_reducible (first | refine CD.to (hU _) ?_ | refine CQ.pure (fun _ => hU _) ?_ | refine bcase_d (fun hb => ?_) (fun hb => ?_) | refine bcase_mk (fun hb => ?_) (fun hb => ?_))) <;> try simp -implicitDefEqProofs only [push_cast, seval]) | with_reducible refine And.intro ?_ ?_ | omega | (simp only [alloc_n, set_n, kill_n]; omega) | (exfalso; omega))
      refine WC.draw' (by kernel_rfl) (by kernel_rfl) (.q 0 (.q 1 (.q 2 (.q 3 (.q 4 (.q 5 (.q 6 (.b 7 (.q 8 (.a 9 false (.a 10 true (.done)))) 9 (.a 7 false (.q 8 (.a 10 true (.done)))))))))))) (by kernel_rfl) ?_
      simp -implicitDefEqProofs only [push_cast, seval, eb0, eb1, w0, w1]
      repeat' (first | with_reducible (first | exact Keep.refl _ _ | assumption | exact byte_lt _ _ | apply Keep.alloc | (refine Keep.set ?_ ?_; rotate_left; · omega) | apply Pre.alloc | apply Pre.set | exact Pre.refl _ | exact le_alloc _ | (refine Pre.keep ?_; assumption) | (refine Pre.n ?_; assumption)) | ((with_reducible (first | refine bcase_d (fun hb => ?_) (fun hb => ?_) | refine bcase_mk (fun hb => ?_) (fun hb => ?_))) <;> try simp -implicitDefEqProofs only [push_cast, seval]) | with_reducible refine And.intro ?_ ?_ | omega | (simp only [alloc_n, set_n, kill_n]; omega) | (exfalso; omega))
      all_goals
        with_reducible refine CD.to (l07Var_none _ _ 2 hz _ hp (by (try simp -implicitDefEqProofs only [push_cast, seval, rdOb]); try rfl)) ?_
        simp -implicitDefEqProofs only [push_cast, seval, rdOb, eb0, eb1, w0, w1]
        repeat' (first | with_reducible (first | exact Keep.refl _ _ | assumption | exact byte_lt _ _ | apply Keep.alloc | (refine Keep.set ?_ ?_; rotate_left; · omega) | apply Pre.alloc | apply Pre.set | exact Pre.refl _ | exact le_alloc _ | (refine Pre.keep ?_; assumption) | (refine Pre.n ?_; assumption)) | ((with_reducible (first | refine bcase_d (fun hb => ?_) (fun hb => ?_) | refine bcase_mk (fun hb => ?_) (fun hb => ?_))) <;> try simp -implicitDefEqProofs only [push_cast, seval]) | with_reducible refine And.intro ?_ ?_ | omega | (simp only [alloc_n, set_n, kill_n]; omega) | (exfalso; omega))
        with_reducible refine CD.to (l07Var_bad _ _ 2 hz _ (by (try simp -implicitDefEqProofs only [push_cast, seval, rdOb]); try rfl)) ?_
        simp -implicitDefEqProofs only [push_cast, seval, rdOb]
        repeat' (first | with_reducible (first | exact Keep.refl _ _ | assumption | exact byte_lt _ _ | apply Keep.alloc | (refine Keep.set ?_ ?_; rotate_left; · omega) | apply Pre.alloc | apply Pre.set | exact Pre.refl _ | exact le_alloc _ | (refine Pre.keep ?_; assumption) | (refine Pre.n ?_; assumption)) | ((with_reducible (first | refine bcase_d (fun hb => ?_) (fun hb => ?_) | refine bcase_mk (fun hb => ?_) (fun hb => ?_))) <;> try simp -implicitDefEqProofs only [push_cast, seval]) | with_reducible refine And.intro ?_ ?_ | omega | (simp only [alloc_n, set_n, kill_n]; omega) | (exfalso; omega))
    rcases hq : rv s ((p.2 : Nat) : Int) with _ | q
    · have e0 : readMsg t = none := by
        have hp' : rv s 2 = some p := hp
        simp [readMsg, hu, h2, hp', hq]
      rw [e0]
      simp only [Option.getD_none, Option.isSome_none, Msg.v, msg0]
      refine CC.ofN Try.func30 Try.ntmps30 Try.results30 rfl (by decide) (by kernel_rfl) ?_
      simp -implicitDefEqProofs only [push_cast, seval]
      repeat' (first | with_reducible (first | exact Keep.refl _ _ | assumption | exact byte_lt _ _ | apply Keep.alloc | (refine Keep.set ?_ ?_; rotate_left; · omega) | apply Pre.alloc | apply Pre.set | exact Pre.refl _ | exact le_alloc _ | (refine Pre.keep ?_; assumption) | (refine Pre.n ?_; assumption)) | ((with_reducible (first | refine CD.to (hU _) ?_ | refine CQ.pure (fun _ => hU _) ?_ | refine bcase_d (fun hb => ?_) (fun hb => ?_) | refine bcase_mk (fun hb => ?_) (fun hb => ?_))) <;> try simp -implicitDefEqProofs only [push_cast, seval]) | with_reducible refine And.intro ?_ ?_ | omega | (simp only [alloc_n, set_n, kill_n]; omega) | (exfalso; omega))
      refine WC.draw' (by kernel_rfl) (by kernel_rfl) (.q 0 (.q 1 (.q 2 (.q 3 (.q 4 (.q 5 (.q 6 (.b 7 (.q 8 (.a 9 false (.a 10 true (.done)))) 9 (.a 7 false (.q 8 (.a 10 true (.done)))))))))))) (by kernel_rfl) ?_
      simp -implicitDefEqProofs only [push_cast, seval, eb0, eb1, w0, w1]
      repeat' (first | with_reducible (first | exact Keep.refl _ _ | assumption | exact byte_lt _ _ | apply Keep.alloc | (refine Keep.set ?_ ?_; rotate_left; · omega) | apply Pre.alloc | apply Pre.set | exact Pre.refl _ | exact le_alloc _ | (refine Pre.keep ?_; assumption) | (refine Pre.n ?_; assumption)) | ((with_reducible (first | refine bcase_d (fun hb => ?_) (fun hb => ?_) | refine bcase_mk (fun hb => ?_) (fun hb => ?_))) <;> try simp -implicitDefEqProofs only [push_cast, seval]) | with_reducible refine And.intro ?_ ?_ | omega | (simp only [alloc_n, set_n, kill_n]; omega) | (exfalso; omega))
      all_goals
        with_reducible refine CD.to (l07Var_some _ _ 2 p hz _ hp (by (try simp -implicitDefEqProofs only [push_cast, seval, rdOb]); try rfl)) ?_
        simp -implicitDefEqProofs only [push_cast, seval, rdOb, eb0, eb1, w0, w1]
        repeat' (first | with_reducible (first | exact Keep.refl _ _ | assumption | exact byte_lt _ _ | apply Keep.alloc | (refine Keep.set ?_ ?_; rotate_left; · omega) | apply Pre.alloc | apply Pre.set | exact Pre.refl _ | exact le_alloc _ | (refine Pre.keep ?_; assumption) | (refine Pre.n ?_; assumption)) | ((with_reducible (first | refine bcase_d (fun hb => ?_) (fun hb => ?_) | refine bcase_mk (fun hb => ?_) (fun hb => ?_))) <;> try simp -implicitDefEqProofs only [push_cast, seval]) | with_reducible refine And.intro ?_ ?_ | omega | (simp only [alloc_n, set_n, kill_n]; omega) | (exfalso; omega))
        with_reducible refine CD.to (l07Var_none _ _ p.2 hz _ hq (by (try simp -implicitDefEqProofs only [push_cast, seval, rdOb]); try rfl)) ?_
        simp -implicitDefEqProofs only [push_cast, seval, rdOb]
        repeat' (first | with_reducible (first | exact Keep.refl _ _ | assumption | exact byte_lt _ _ | apply Keep.alloc | (refine Keep.set ?_ ?_; rotate_left; · omega) | apply Pre.alloc | apply Pre.set | exact Pre.refl _ | exact le_alloc _ | (refine Pre.keep ?_; assumption) | (refine Pre.n ?_; assumption)) | ((with_reducible (first | refine bcase_d (fun hb => ?_) (fun hb => ?_) | refine bcase_mk (fun hb => ?_) (fun hb => ?_))) <;> try simp -implicitDefEqProofs only [push_cast, seval]) | with_reducible refine And.intro ?_ ?_ | omega | (simp only [alloc_n, set_n, kill_n]; omega) | (exfalso; omega))
    · have e0 : readMsg t = if msgOk ⟨bN s 0, bN s 1, p.1, q.1, s.extract q.2 s.size⟩ then some ⟨bN s 0, bN s 1, p.1, q.1, s.extract q.2 s.size⟩ else none := by
        have hp' : rv s 2 = some p := hp
        simp [readMsg, hu, h2, hp', hq]
      have hx := rv_some hq
      have hM := MessageText_s ⟨bN s 0, bN s 1, p.1, q.1, s.extract q.2 s.size⟩
      have hb1 := msg_back (by omega) hp hq
      have hb2 := (unsealT_some hu).1
      have hT : msgOk ⟨bN s 0, bN s 1, p.1, q.1, s.extract q.2 s.size⟩ = true → msgText ⟨bN s 0, bN s 1, p.1, q.1, s.extract q.2 s.size⟩ = t := fun hk => by
        rw [msgText, if_pos hk, hb1, hb2]
      simp only [Msg.v] at hM
      rw [e0]
      generalize msgText ⟨bN s 0, bN s 1, p.1, q.1, s.extract q.2 s.size⟩ = T at hM hT
      refine CC.ofN Try.func30 Try.ntmps30 Try.results30 rfl (by decide) (by kernel_rfl) ?_
      simp -implicitDefEqProofs only [push_cast, seval]
      repeat' (first | with_reducible (first | exact Keep.refl _ _ | assumption | exact byte_lt _ _ | apply Keep.alloc | (refine Keep.set ?_ ?_; rotate_left; · omega) | apply Pre.alloc | apply Pre.set | exact Pre.refl _ | exact le_alloc _ | (refine Pre.keep ?_; assumption) | (refine Pre.n ?_; assumption)) | ((with_reducible (first | refine CD.to (hU _) ?_ | refine CQ.pure (fun _ => hU _) ?_ | refine bcase_d (fun hb => ?_) (fun hb => ?_) | refine bcase_mk (fun hb => ?_) (fun hb => ?_))) <;> try simp -implicitDefEqProofs only [push_cast, seval]) | with_reducible refine And.intro ?_ ?_ | omega | (simp only [alloc_n, set_n, kill_n]; omega) | (exfalso; omega))
      refine WC.draw' (by kernel_rfl) (by kernel_rfl) (.q 0 (.q 1 (.q 2 (.q 3 (.q 4 (.q 5 (.q 6 (.b 7 (.q 8 (.a 9 false (.a 10 true (.done)))) 9 (.a 7 false (.q 8 (.a 10 true (.done)))))))))))) (by kernel_rfl) ?_
      simp -implicitDefEqProofs only [push_cast, seval, eb0, eb1, w0, w1]
      repeat' (first | with_reducible (first | exact Keep.refl _ _ | assumption | exact byte_lt _ _ | apply Keep.alloc | (refine Keep.set ?_ ?_; rotate_left; · omega) | apply Pre.alloc | apply Pre.set | exact Pre.refl _ | exact le_alloc _ | (refine Pre.keep ?_; assumption) | (refine Pre.n ?_; assumption)) | ((with_reducible (first | refine bcase_d (fun hb => ?_) (fun hb => ?_) | refine bcase_mk (fun hb => ?_) (fun hb => ?_))) <;> try simp -implicitDefEqProofs only [push_cast, seval]) | with_reducible refine And.intro ?_ ?_ | omega | (simp only [alloc_n, set_n, kill_n]; omega) | (exfalso; omega))
      all_goals
        with_reducible refine CD.to (l07Var_some _ _ 2 p hz _ hp (by (try simp -implicitDefEqProofs only [push_cast, seval, rdOb]); try rfl)) ?_
        simp -implicitDefEqProofs only [push_cast, seval, rdOb, eb0, eb1, w0, w1]
        repeat' (first | with_reducible (first | exact Keep.refl _ _ | assumption | exact byte_lt _ _ | apply Keep.alloc | (refine Keep.set ?_ ?_; rotate_left; · omega) | apply Pre.alloc | apply Pre.set | exact Pre.refl _ | exact le_alloc _ | (refine Pre.keep ?_; assumption) | (refine Pre.n ?_; assumption)) | ((with_reducible (first | refine bcase_d (fun hb => ?_) (fun hb => ?_) | refine bcase_mk (fun hb => ?_) (fun hb => ?_))) <;> try simp -implicitDefEqProofs only [push_cast, seval]) | with_reducible refine And.intro ?_ ?_ | omega | (simp only [alloc_n, set_n, kill_n]; omega) | (exfalso; omega))
        with_reducible refine CD.to (l07Var_some _ _ p.2 q hz _ hq (by (try simp -implicitDefEqProofs only [push_cast, seval, rdOb]); try rfl)) ?_
        simp -implicitDefEqProofs only [push_cast, seval, rdOb]
        repeat' (first | with_reducible (first | exact Keep.refl _ _ | assumption | exact byte_lt _ _ | apply Keep.alloc | (refine Keep.set ?_ ?_; rotate_left; · omega) | apply Pre.alloc | apply Pre.set | exact Pre.refl _ | exact le_alloc _ | (refine Pre.keep ?_; assumption) | (refine Pre.n ?_; assumption)) | ((with_reducible (first | refine CD.to (hM _) ?_ | refine CQ.pure (fun _ => hM _) ?_ | refine bcase_d (fun hb => ?_) (fun hb => ?_) | refine bcase_mk (fun hb => ?_) (fun hb => ?_))) <;> try simp -implicitDefEqProofs only [push_cast, seval]) | with_reducible refine And.intro ?_ ?_ | omega | (simp only [alloc_n, set_n, kill_n]; omega) | (exfalso; omega))
        all_goals first
          | (simp [Msg.v, msg0, *]; done)
          | exact absurd (hT (by assumption)) (by assumption)
end Go.Proofs.Ytfbcedjheempfaa

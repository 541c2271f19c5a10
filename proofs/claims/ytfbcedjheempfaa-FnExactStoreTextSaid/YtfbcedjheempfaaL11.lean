/- A part of the proof of the row: contracts of functions that it reaches. Conditions: those that each theorem names. -/
import Derived.Test.YtfbcedjheempfaaL10
namespace Go.Proofs.Ytfbcedjheempfaa
open Go Go.Sim Go.Proofs
set_option linter.unusedSimpArgs false
set_option linter.unusedVariables false
set_option maxRecDepth 100000
set_option maxHeartbeats 1000000
theorem szMessage_c (m : Msg) (l : Int) (hs : m.body.size ≤ maxLen) (hl : 0 ≤ l ∧ l ≤ 1048576) (h : AH) : CD Try.prog 12 [m.v, .int .i64 l] h (.int .i64 (if l - m.body.size < 0 then -1 else l - m.body.size)) h := by
  refine CD.quiet ?_ (low_int _ _ _)
  have hm := maxLen_eq
  have w1 : IntKind.i64.wrap (l - (m.body.size : Int)) = l - (m.body.size : Int) := by rw [w64 (by omega) (by omega)]
  simp only [Msg.v]
  refine CC.ofN Try.func12 Try.ntmps12 Try.results12 rfl (by decide) (by kernel_rfl) ?_
  simp -implicitDefEqProofs only [push_cast, seval, w1]
  repeat' (first | with_reducible (first | exact Keep.refl _ _ | assumption | exact byte_lt _ _ | apply Keep.alloc | (refine Keep.set ?_ ?_; rotate_left; · omega) | apply Pre.alloc | apply Pre.set | exact Pre.refl _ | exact le_alloc _ | (refine Pre.keep ?_; assumption) | (refine Pre.n ?_; assumption)) | ((with_reducible (first | refine bcase_d (fun hb => ?_) (fun hb => ?_) | refine bcase_mk (fun hb => ?_) (fun hb => ?_))) <;> try simp -implicitDefEqProofs only [push_cast, seval, w1]) | with_reducible refine And.intro ?_ ?_ | omega | (simp only [alloc_n, set_n, kill_n]; omega) | (exfalso; omega))
  all_goals grind
theorem toMessage_c (m : Msg) (h : AH) : CD Try.prog 14 [m.v] h m.v h := by
  simp only [Msg.v]
  refine CD.quiet ?_ (low_agg (by simp [low_int, low_string]))
  refine CC.ofN Try.func14 Try.ntmps14 Try.results14 rfl (by decide) (by kernel_rfl) ?_
  simp -implicitDefEqProofs only [push_cast, seval]
  repeat' (first | with_reducible (first | exact Keep.refl _ _ | assumption | exact byte_lt _ _ | apply Keep.alloc | (refine Keep.set ?_ ?_; rotate_left; · omega) | apply Pre.alloc | apply Pre.set | exact Pre.refl _ | exact le_alloc _ | (refine Pre.keep ?_; assumption) | (refine Pre.n ?_; assumption)) | ((with_reducible (first | refine bcase_d (fun hb => ?_) (fun hb => ?_) | refine bcase_mk (fun hb => ?_) (fun hb => ?_))) <;> try simp -implicitDefEqProofs only [push_cast, seval]) | with_reducible refine And.intro ?_ ?_ | omega | (simp only [alloc_n, set_n, kill_n]; omega) | (exfalso; omega))
theorem eqMessage_c (a b : Msg) (h : AH) : CD Try.prog 32 [a.v, b.v] h (.bool (decide (a = b))) h := by
  simp only [Msg.v]
  refine CD.quiet ?_ (low_bool _ _)
  refine CC.ofN Try.func32 Try.ntmps32 Try.results32 rfl (by decide) (by kernel_rfl) ?_
  simp -implicitDefEqProofs only [push_cast, seval]
  repeat' (first | with_reducible (first | exact Keep.refl _ _ | assumption | exact byte_lt _ _ | apply Keep.alloc | (refine Keep.set ?_ ?_; rotate_left; · omega) | apply Pre.alloc | apply Pre.set | exact Pre.refl _ | exact le_alloc _ | (refine Pre.keep ?_; assumption) | (refine Pre.n ?_; assumption)) | ((with_reducible (first | refine bcase_d (fun hb => ?_) (fun hb => ?_) | refine bcase_mk (fun hb => ?_) (fun hb => ?_))) <;> try simp -implicitDefEqProofs only [push_cast, seval]) | with_reducible refine And.intro ?_ ?_ | omega | (simp only [alloc_n, set_n, kill_n]; omega) | (exfalso; omega))
  all_goals (obtain ⟨a1, a2, a3, a4, a5⟩ := a; obtain ⟨b1, b2, b3, b4, b5⟩ := b; simp_all [Msg.mk.injEq])
theorem law_MessageText (m : Msg) (hs : m.body.size ≤ maxLen) (h : AH) : CE Try.prog 5 [m.v] h fun v _ => v = .bool true := by
  have h1 := szMessage_c m 1048576 hs (by omega)
  have h2 := toMessage_c m
  have h3 := MessageText_i m
  have h4 := MessageText_s m
  simp only [Msg.v] at *
  refine CE.ofN Try.func5 Try.ntmps5 Try.results5 rfl (by kernel_rfl) ?_
  simp -implicitDefEqProofs only [push_cast, seval]
  repeat' (first | with_reducible (first | exact Keep.refl _ _ | assumption | exact byte_lt _ _ | apply Keep.alloc | (refine Keep.set ?_ ?_; rotate_left; · omega) | apply Pre.alloc | apply Pre.set | exact Pre.refl _ | exact le_alloc _ | (refine Pre.keep ?_; assumption) | (refine Pre.n ?_; assumption)) | ((with_reducible (first | refine CD.to (h1 _) ?_ | refine CQ.pure (fun _ => h1 _) ?_ | refine CD.to (h2 _) ?_ | refine CQ.pure (fun _ => h2 _) ?_ | refine CD.to (h3 _) ?_ | refine CQ.pure (fun _ => h3 _) ?_ | refine CD.to (h4 _) ?_ | refine CQ.pure (fun _ => h4 _) ?_ | refine bcase_d (fun hb => ?_) (fun hb => ?_) | refine bcase_mk (fun hb => ?_) (fun hb => ?_))) <;> try simp -implicitDefEqProofs only [push_cast, seval]) | with_reducible refine And.intro ?_ ?_ | omega | (simp only [alloc_n, set_n, kill_n]; omega) | (exfalso; omega))
  all_goals simp at hb
theorem law_ReadMessage (t : ByteArray) (hs : t.size ≤ maxLen) (h : AH) : CE Try.prog 7 [.string t] h fun v _ => v = .bool true := by
  have hm := maxLen_eq
  by_cases hz : t.size ≤ 1048576
  · have h3 := ReadMessage_i t (by omega)
    have h4 := ReadMessage_s t (by omega)
    have h5 := eqMessage_c ((readMsg t).getD msg0) ((readMsg t).getD msg0)
    simp only [Msg.v] at *
    refine CE.ofN Try.func7 Try.ntmps7 Try.results7 rfl (by kernel_rfl) ?_
    simp -implicitDefEqProofs only [push_cast, seval]
    repeat' (first | with_reducible (first | exact Keep.refl _ _ | assumption | exact byte_lt _ _ | apply Keep.alloc | (refine Keep.set ?_ ?_; rotate_left; · omega) | apply Pre.alloc | apply Pre.set | exact Pre.refl _ | exact le_alloc _ | (refine Pre.keep ?_; assumption) | (refine Pre.n ?_; assumption)) | ((with_reducible (first | refine CD.to (h3 _) ?_ | refine CQ.pure (fun _ => h3 _) ?_ | refine CD.to (h4 _) ?_ | refine CQ.pure (fun _ => h4 _) ?_ | refine CD.to (h5 _) ?_ | refine CQ.pure (fun _ => h5 _) ?_ | refine bcase_d (fun hb => ?_) (fun hb => ?_) | refine bcase_mk (fun hb => ?_) (fun hb => ?_))) <;> try simp -implicitDefEqProofs only [push_cast, seval]) | with_reducible refine And.intro ?_ ?_ | omega | (simp only [alloc_n, set_n, kill_n]; omega) | (exfalso; omega))
    all_goals simp at hb
  · refine CE.ofN Try.func7 Try.ntmps7 Try.results7 rfl (by kernel_rfl) ?_
    simp -implicitDefEqProofs only [push_cast, seval]
    repeat' (first | with_reducible (first | exact Keep.refl _ _ | assumption | exact byte_lt _ _ | apply Keep.alloc | (refine Keep.set ?_ ?_; rotate_left; · omega) | apply Pre.alloc | apply Pre.set | exact Pre.refl _ | exact le_alloc _ | (refine Pre.keep ?_; assumption) | (refine Pre.n ?_; assumption)) | ((with_reducible (first | refine bcase_d (fun hb => ?_) (fun hb => ?_) | refine bcase_mk (fun hb => ?_) (fun hb => ?_))) <;> try simp -implicitDefEqProofs only [push_cast, seval]) | with_reducible refine And.intro ?_ ?_ | omega | (simp only [alloc_n, set_n, kill_n]; omega) | (exfalso; omega))
end Go.Proofs.Ytfbcedjheempfaa

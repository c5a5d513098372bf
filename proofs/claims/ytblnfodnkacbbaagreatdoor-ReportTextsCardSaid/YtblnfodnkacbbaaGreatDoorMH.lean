/- The row's own test holds. No condition. -/
import Derived.Test.YtblnfodnkacbbaaGreatDoorMC
import Derived.Test.YtblnfodnkacbbaaGreatDoorME
import Derived.Test.YtblnfodnkacbbaaGreatDoorMD
import Derived.Test.YtblnfodnkacbbaaGreatDoorMF
import Derived.Test.YtblnfodnkacbbaaGreatDoorMG
set_option linter.unusedVariables false
set_option linter.unusedSectionVars false
set_option linter.unnecessarySimpa false
set_option linter.unusedSimpArgs false
set_option maxRecDepth 100000
set_option maxHeartbeats 4000000
namespace Go.Proofs.YtblnfodnkacbbaaGreatDoor.Q
open Go.RowKit
variable [Amb]
abbrev i0 (n : Int) : D := .int .i64 n
/-- A loop whose one pick is a tick. -/
def tickL (c0 c1 : List (List D)) (c2 c3 : Bool) (c4 c5 c6 : List (List D)) : V := .agg [.d (.sl c0), .d (.sl c1), .d (.bool c2), .d (.bool c3), .d (.sl c4), .d (.sl c5), .d (.sl c6), .d (.sl [[i0 2, i0 0, i0 0]])]
def edge0 : V := .agg [iv 0, iv 0, iv 0, iv 0, iv 0, iv 0, .d (.str []), .d (.str []), iv 0, .d (.sl []), iv 0, iv 0, iv 0, iv 0, iv 0]
theorem tickEdge_c (c0 c1 : List (List D)) (c2 c3 : Bool) (c4 c5 c6 : List (List D)) : PFun Tryz.prog 121 [tickL c0 c1 c2 c3 c4 c5 c6, iv 0] [] (.tup [edge0, .d (.bool false)]) [] := by
  refine fn_sem pok 47 0 Tryz.func121 (by kernel_rfl) rfl rfl rfl rfl ?_
  refine SWp.go pok (by kernel_rfl) ?_
  refine PIdx.at (i := 0) rfl ?_
  exact fin1 rfl
theorem tickPasses_c (c0 c1 : List (List D)) (c2 c3 : Bool) (c4 c5 c6 : List (List D)) : PFun Tryz.prog 70 [tickL c0 c1 c2 c3 c4 c5 c6] [] (.d (.bool false)) [] := by
  refine fn_sem pok 87 0 Tryz.func70 (by kernel_rfl) rfl rfl rfl rfl ?_
  refine SWp.then pok (by kernel_rfl) ?_
  refine SWp.then pok (by kernel_rfl) ?_
  refine SWp.then pok (by kernel_rfl) ?_
  refine SWp.then pok (by kernel_rfl) ?_
  refine SWp.loop (fun k : Nat => k ≤ 1) (fun k => ([(1, .ptr 0 0), (3, .map 1), (4, .map 2), (16, .d (.sl [[i0 2, i0 0, i0 0]])), (17, iv 1), (18, iv k)], [.box [.d (.sl c0), .d (.sl c1), .d (.bool c2), .d (.bool c3), .d (.sl c4), .d (.sl c5), .d (.sl c6), .d (.sl [[i0 2, i0 0, i0 0]])], .iset [], .iset []])) (fun k => 1 - k) 0 (Nat.zero_le _) (Le.same ⟨rfl, rfl, rfl, rfl, rfl, rfl, trivial⟩) (fun k hk => ?_)
  rcases Nat.lt_or_ge k 1 with h | h
  · have hk0 : k = 0 := by omega
    subst hk0
    refine SWp.go pok (by kernel_rfl) ?_
    refine PFun.call (tickEdge_c c0 c1 c2 c3 c4 c5 c6) ?_
    exact ⟨1, Nat.le_refl _, by decide, .inr ⟨[0, 1, 2], ⟨rfl, rfl⟩, rfl, rfl, rfl, rfl, rfl, rfl, rfl, trivial⟩⟩
  · have hk1 : k = 1 := by omega
    subst hk1
    refine SWp.go pok (by kernel_rfl) ?_
    refine SWp.frzSet 1 rfl ?_
    refine SWp.frzSet 2 rfl ?_
    refine SWp.go pok (by kernel_rfl) ?_
    refine SWp.loop (fun u : Unit => True) (fun _ => ([(3, .d (.set [])), (78, .ptr 3 0)], [.box [.d (.sl c0), .d (.sl c1), .d (.bool c2), .d (.bool c3), .d (.sl c4), .d (.sl c5), .d (.sl c6), .d (.sl [[i0 2, i0 0, i0 0]])], .dead, .dead, .iter [] []])) (fun _ => 0) () trivial (.inr ⟨[0, 1, 2, 3], ⟨rfl, rfl⟩, rfl, rfl, rfl, trivial⟩) (fun u _ => ?_)
    refine SWp.go pok (by kernel_rfl) ?_
    refine ⟨(fun k hk => by cases hk), fun _ => ?_⟩
    exact fin1 rfl
end Go.Proofs.YtblnfodnkacbbaaGreatDoor.Q

namespace Go.Proofs.YtblnfodnkacbbaaGreatDoor.Q
open Go.RowKit
theorem allN : Tryz.prog.funcs.all (fun fn => !(fn.name == "runtime.NumGoroutine")) = true := by kernel_rfl
def s0 : Str := [114, 101, 106, 101, 99, 116, 32, 52, 32, 58, 32, 48, 32, 124, 32, 48, 32, 48, 32, 124, 32, 116, 32, 124, 32, 48]
def s1 : Str := [114, 101, 106, 101, 99, 116, 32, 52, 58, 32, 48, 32, 124, 32, 48, 32, 48, 32, 124, 32, 116, 32, 124, 32, 48]
def v0 : Vd := ⟨3, 0, 0, 4, [], 0, ⟨[⟨0, 0, 0⟩, ⟨0, 0, 0⟩], [⟨2, 0, 0⟩], 0⟩⟩
theorem itoa0 : Lib.itoa 0 = [48] := by rw [itoa_dec (by decide), dec_unfold]; rfl
theorem itoa4 : Lib.itoa 4 = [52] := by rw [itoa_dec (by decide), dec_unfold]; rfl
theorem put_v0 : putV v0 = (s0, 0) := by
  have p1 : pickS ⟨0, 0, 0⟩ = ([48], true) := by
    unfold pickS
    rw [if_neg (by decide), if_pos rfl, if_neg (by decide)]
    show (Lib.itoa 0, true) = _
    rw [itoa0]
  have p2 : pickS ⟨2, 0, 0⟩ = ([116], true) := by decide
  have q1 : putPs [⟨0, 0, 0⟩, ⟨0, 0, 0⟩] = ([48, 32, 48], 0) := by
    unfold putPs
    simp only [List.all_cons, List.all_nil, List.map_cons, List.map_nil, p1]
    rfl
  have q2 : putPs [⟨2, 0, 0⟩] = ([116], 0) := by
    unfold putPs
    simp only [List.all_cons, List.all_nil, List.map_cons, List.map_nil, p2]
    rfl
  have l1 : putL v0.way = ([48, 32, 48, 32, 124, 32, 116, 32, 124, 32, 48], 0) := by
    unfold putL v0
    dsimp only
    rw [q1, q2, itoa0]
    rfl
  have w1 : rejWords v0 [48, 32, 48, 32, 124, 32, 116, 32, 124, 32, 48] = [wRej, [52], [58], [48], [124], [48, 32, 48, 32, 124, 32, 116, 32, 124, 32, 48]] := by
    unfold rejWords v0
    dsimp only
    rw [itoa0, itoa4]
    rfl
  unfold putV
  rw [l1, w1]
  rfl
theorem parse_s0 : parseV s0 = (v0, 0) := by
  have := parseV_put (v := v0) (by rw [put_v0])
  rw [put_v0] at this
  exact this
theorem parse_s1 : parseV s1 = (.zero, 2) := by
  have h : areNumsS (guessV s1) = false := by decide +kernel
  unfold parseV
  rw [if_neg]
  unfold putV
  rw [h, if_pos (by simp)]
  intro e
  injection e with _ e
  cases e
def isInts : List D → List Int → Bool
  | [], [] => true
  | .int .i64 n :: r, m :: ms => (n == m) && isInts r ms
  | _, _ => false
theorem isInts_eq : ∀ {r : List D} {ms : List Int}, isInts r ms = true → r = ms.map (D.int .i64)
  | [], [], _ => rfl
  | [], m :: ms, h => by simp [isInts] at h
  | d :: r, [], h => by cases d <;> simp [isInts] at h
  | d :: r, m :: ms, h => by
    unfold isInts at h
    split at h
    · cases ‹_ :: _ = []›
    · rename_i n r' m' ms' e1 e2
      injection e1 with e1 e3
      injection e2 with e2 e4
      subst e1; subst e2; subst e3; subst e4
      rw [Bool.and_eq_true, beq_iff_eq] at h
      rw [h.1, isInts_eq h.2]; rfl
    · cases h
/-- An expression without parts, names and numbers. -/
def exO (op pl : Int) : Ex := ⟨op, [], [], 0, [], pl⟩
variable [Amb]
theorem exO_pre (op pl : Int) : (exO op pl).pre = [exO op pl] := by rw [Ex.pre_eq]; simp [exO, Ex.pres]
theorem exO_fits (op pl : Int) : (exO op pl).fits := by
  unfold Ex.fits
  rw [exO_pre]
  refine ⟨by simp, fun y hy => ?_⟩
  rw [List.mem_singleton] at hy; subst hy
  exact ⟨by simp [exO], by simp [exO], by simp [exO]⟩
theorem checkO2 (pl : Int) : checkS (exO 2 pl) = 0 := by unfold checkS; rw [exO_pre]; rfl
theorem checkO0 (pl : Int) : checkS (exO 0 pl) = 20 := by unfold checkS; rw [exO_pre]; rfl
theorem exprO0 (pl : Int) : exprP (exO 0 pl) = ([], 20) := by unfold exprP; rw [checkO0]; rfl
theorem exprO2 (pl : Int) : exprP (exO 2 pl) = ([116, 114, 117, 101], 0) := by
  have h1 : (exO 2 pl).ns 1 = 0 := by rfl
  have h2 : (exO 2 pl).pr 1 = [116, 114, 117, 101] := by rfl
  unfold exprP
  rw [checkO2, if_neg (by decide), h1, if_neg (by decide), h2]
  rfl
theorem exO_num (op pl : Int) : ∀ y ∈ (exO op pl).pre, R64 y.n := by
  rw [exO_pre]
  intro y hy
  rw [List.mem_singleton] at hy; subst hy
  show R64 0
  unfold R64; omega
section
variable [Vars]
def kn30 : Known := fun f => match Nat.beq f 70, Nat.beq f 206 with
  | true, _ => some fun args h => match args, h with
    | [.agg [.d (.sl c0), .d (.sl c1), .d (.bool c2), .d (.bool c3), .d (.sl c4), .d (.sl c5), .d (.sl c6), .d (.sl [row])]], [] => match isInts row [2, 0, 0] with
      | true => some (.d (.bool false), [])
      | false => none
    | _, _ => none
  | _, true => some fun args h => match args, h with
    | [.agg [.d (.int .i64 op), .d (.str []), .d (.str []), .d n, .d (.sl []), .d (.int .i64 pl)]], [] => match isInts [n] [0] with
      | true => match Int.decEq op 2 with
        | .isTrue _ => some (iv 0, [])
        | .isFalse _ => match Int.decEq op 0 with
          | .isTrue _ => some (iv 20, [])
          | .isFalse _ => none
      | false => none
    | _, _ => none
  | _, _ => match Nat.beq f 9, Nat.beq f 7, Nat.beq f 163 with
    | true, _, _ => some fun args h => match args, h with
      | [.d (.str s)], [] => match s == s0 with
        | true => some (.tup [v0.v, iv 0], [])
        | false => match s == s1 with
          | true => some (.tup [Vd.zero.v, iv 2], [])
          | false => none
      | _, _ => none
    | _, true, _ => some fun args h => match args, h with
      | [.agg [.d a, .d b, .d c, .d e, .d (.sl []), .d g, .d (.sl [r1, r2]), .d (.sl [r3]), .d j]], [] => match isInts [a, b, c, e, g, j] [3, 0, 0, 4, 0, 0] && (isInts r1 [0, 0, 0] && (isInts r2 [0, 0, 0] && isInts r3 [2, 0, 0])) with
        | true => some (.tup [sv' s0, iv 0], [])
        | false => none
      | _, _ => none
    | _, _, true => some fun args h => match args, h with
      | [.agg [.d (.int .i64 op), .d (.str []), .d (.str []), .d n, .d (.sl []), .d (.int .i64 pl)]], [] => match isInts [n] [0] with
        | true => match Int.decEq op 2 with
          | .isTrue _ => some (.tup [sv' [116, 114, 117, 101], iv 0], [])
          | .isFalse _ => match Int.decEq op 0 with
            | .isTrue _ => some (.tup [sv' [], iv 20], [])
            | .isFalse _ => none
        | false => none
      | _, _ => none
    | _, _, _ => none
theorem v0_ok : v0.ok := by
  have z : ∀ n : Int, 0 ≤ n → n ≤ 4 → R64 n := fun n h1 h2 => by unfold R64; omega
  refine ⟨z 3 (by decide) (by decide), z 0 (by decide) (by decide), z 0 (by decide) (by decide), z 4 (by decide) (by decide), (fun n h => absurd h (by simp [v0])), z 0 (by decide) (by decide), ⟨fun p h => ?_, fun p h => ?_, z 0 (by decide) (by decide)⟩, by decide, by decide, by decide⟩
  · simp [v0] at h; subst h; exact ⟨z 0 (by decide) (by decide), z 0 (by decide) (by decide), z 0 (by decide) (by decide)⟩
  · simp [v0] at h; subst h; exact ⟨z 2 (by decide) (by decide), z 0 (by decide) (by decide), z 0 (by decide) (by decide)⟩
theorem kn30_ok : KnownOk Tryz.prog kn30 := fun f fn args h r h' h1 h2 => by
  have hp0 := parse30_c s0 (by decide)
  rw [parse_s0] at hp0
  have hp1 := parse30_c s1 (by decide)
  rw [parse_s1] at hp1
  have hq := put30_c v0 v0_ok
  rw [put_v0] at hq
  have he2 := fun pl => printExpr_c (exO 2 pl) (exO_fits 2 pl) (exO_num 2 pl) (fun _ => by rw [show (exO 2 pl).pr 1 = [116, 114, 117, 101] from rfl]; decide)
  have he0 := fun pl => printExpr_c (exO 0 pl) (exO_fits 0 pl) (exO_num 0 pl) (fun h => absurd (h.part (exO 0 pl) (by rw [exO_pre]; simp)) (by show ¬ (false = true); decide))
  simp only [exprO2, exprO0] at he2 he0
  have hc2 := fun pl => checkExpr_c (exO 2 pl) (exO_fits 2 pl)
  have hc0 := fun pl => checkExpr_c (exO 0 pl) (exO_fits 0 pl)
  simp only [checkO2, checkO0] at hc2 hc0
  unfold kn30 at h1
  split at h1
  · rename_i hf
    have hf := Nat.eq_of_beq_eq_true hf
    subst hf
    injection h1 with h1
    subst h1
    dsimp only at h2
    split at h2
    · split at h2
      · rename_i hi
        injection h2 with h2
        injection h2 with h2 h3
        subst h2; subst h3
        rw [isInts_eq hi]
        exact tickPasses_c _ _ _ _ _ _ _
      · cases h2
    · cases h2
  · rename_i hf _
    have hf := Nat.eq_of_beq_eq_true hf
    subst hf
    injection h1 with h1
    subst h1
    dsimp only at h2
    split at h2
    · split at h2
      · rename_i hi
        have hi := isInts_eq hi
        injection hi with hi _
        subst hi
        split at h2
        · rename_i ho _
          subst ho
          injection h2 with h2
          injection h2 with h2 h3
          subst h2; subst h3
          exact hc2 _
        · split at h2
          · rename_i ho _
            subst ho
            injection h2 with h2
            injection h2 with h2 h3
            subst h2; subst h3
            exact hc0 _
          · cases h2
      · cases h2
    · cases h2
  · split at h1
    · rename_i hf
      have hf := Nat.eq_of_beq_eq_true hf
      subst hf
      injection h1 with h1
      subst h1
      dsimp only at h2
      split at h2
      · split at h2
        · rename_i hs
          have hs := eq_of_beq hs
          subst hs
          injection h2 with h2
          injection h2 with h2 h3
          subst h2; subst h3
          exact hp0
        · split at h2
          · rename_i hs
            have hs := eq_of_beq hs
            subst hs
            injection h2 with h2
            injection h2 with h2 h3
            subst h2; subst h3
            exact hp1
          · cases h2
      · cases h2
    · rename_i hf _
      have hf := Nat.eq_of_beq_eq_true hf
      subst hf
      injection h1 with h1
      subst h1
      dsimp only at h2
      split at h2
      · split at h2
        · rename_i hi
          simp only [Bool.and_eq_true] at hi
          have i1 := isInts_eq hi.1
          simp only [List.map_cons, List.map_nil, List.cons.injEq, and_true] at i1
          obtain ⟨rfl, rfl, rfl, rfl, rfl, rfl⟩ := i1
          rw [isInts_eq hi.2.1, isInts_eq hi.2.2.1, isInts_eq hi.2.2.2]
          injection h2 with h2
          injection h2 with h2 h3
          subst h2; subst h3
          exact hq
        · cases h2
      · cases h2
    · rename_i hf _ _
      have hf := Nat.eq_of_beq_eq_true hf
      subst hf
      injection h1 with h1
      subst h1
      dsimp only at h2
      split at h2
      · split at h2
        · rename_i hi
          have hi := isInts_eq hi
          injection hi with hi _
          subst hi
          split at h2
          · rename_i ho _
            subst ho
            injection h2 with h2
            injection h2 with h2 h3
            subst h2; subst h3
            exact he2 _
          · split at h2
            · rename_i ho _
              subst ho
              injection h2 with h2
              injection h2 with h2 h3
              subst h2; subst h3
              exact he0 _
            · cases h2
        · cases h2
      · cases h2
    · cases h1
end
end Go.Proofs.YtblnfodnkacbbaaGreatDoor.Q

namespace Go.Proofs.YtblnfodnkacbbaaGreatDoor.Q
open Go.RowKit
variable [Amb] [Vars]
theorem live30_ev : PFun Tryz.prog 6 [] [] (.d (.bool true)) [] := ev_true (N := 200) (m := 40) pok kn30_ok allN (by kernel_rfl)
theorem reportBack_t (v : Vd) (s : Str) (hv : v.num) (hs : s.length ≤ maxLen) : PFun Tryz.prog 4 [v.v, sv' s] [] (.d (.bool true)) [] := back_c live30_ev v hv s
end Go.Proofs.YtblnfodnkacbbaaGreatDoor.Q

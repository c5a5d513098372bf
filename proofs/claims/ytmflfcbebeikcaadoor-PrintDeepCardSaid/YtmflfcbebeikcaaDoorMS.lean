/- Deep expressions and blocks. No condition. -/
import Derived.Test.YtmflfcbebeikcaaDoorMQ
import Derived.Test.YtmflfcbebeikcaaDoorMJ
set_option linter.unusedVariables false
set_option linter.unusedSectionVars false
set_option linter.unnecessarySimpa false
set_option linter.unusedSimpArgs false
set_option maxRecDepth 100000
set_option maxHeartbeats 4000000
namespace Go.Proofs.YtmflfcbebeikcaaDoor.Q
open Go.RowKit
variable [Amb] [Pow]
def dpE (op : Int) : Nat → Ex
  | 0 => va [120]
  | k + 1 => ⟨op, [], [], 0, [dpE op k], 0⟩
def dpB : Nat → List St
  | 0 => []
  | k + 1 => [⟨5, [], [], 0, lv0, [dpB k], 0⟩]
def dpP (k : Nat) : Pg := ⟨[], [⟨[114], true, 0, dpB k, 0⟩]⟩
theorem dpE_pre (op : Int) : ∀ k, (dpE op k).pre.length = k + 1
  | 0 => rfl
  | k + 1 => by
    rw [Ex.pre_eq, List.length_cons]
    show (Ex.pres [dpE op k]).length + 1 = _
    rw [Ex.pres_map]
    simp [dpE_pre op k]
theorem dpE_mem (op : Int) : ∀ k, ∀ y ∈ (dpE op k).pre, y = va [120] ∨ ∃ j, y = dpE op (j + 1)
  | 0, y, hy => by
    left
    have : (dpE op 0).pre = [va [120]] := by kernel_rfl
    rw [this] at hy
    simpa using hy
  | k + 1, y, hy => by
    rw [Ex.pre_eq] at hy
    rcases List.mem_cons.1 hy with rfl | hy
    · exact .inr ⟨k, rfl⟩
    · have hy : y ∈ Ex.pres [dpE op k] := hy
      rw [Ex.pres_map] at hy
      exact dpE_mem op k y (by simpa using hy)
theorem dpE_ok {op : Int} (h : op = 5 ∨ op = 6 ∨ op = 7) (k : Nat) : PrOk (dpE op k) := by
  refine ⟨fun y hy => ?_, fun y hy => ?_⟩
  · rcases dpE_mem op k y hy with rfl | ⟨j, rfl⟩
    · kernel_rfl
    · rcases h with rfl | rfl | rfl <;> rfl
  · rcases dpE_mem op k y hy with rfl | ⟨j, rfl⟩ <;> (show R64 0; unfold R64; decide)
theorem dpE_fits (op : Int) {k : Nat} (hk : k ≤ 80) : (dpE op k).fits := by
  refine ⟨by rw [dpE_pre]; omega, fun y hy => ?_⟩
  rcases dpE_mem op k y hy with rfl | ⟨j, rfl⟩
  · exact ⟨by decide, by decide, by decide⟩
  · exact ⟨by show 1 < 1073741824; decide, by show 0 < 1073741824; decide, by show 0 < 1073741824; decide⟩
theorem dpE_check {op : Int} (h : op = 5 ∨ op = 6 ∨ op = 7) (k : Nat) : checkS (dpE op k) = 0 := by
  unfold checkS
  rw [List.all_eq_true.2 (dpE_ok h k).part]; rfl
theorem dpE_lv {op : Int} (h : op = 5 ∨ op = 6 ∨ op = 7) : ∀ k, (dpE op k).bn = k ∧ (op = 5 → 3 ≤ levelS (dpE op k).op) ∧ (op ≠ 5 → levelS (dpE op k).op = 6)
  | 0 => ⟨rfl, fun _ => by show (3 : Int) ≤ 6; decide, fun _ => rfl⟩
  | k + 1 => by
    obtain ⟨h1, h2, h3⟩ := dpE_lv h k
    refine ⟨?_, fun e => by subst e; show (3 : Int) ≤ 3; decide, fun e => by rcases h with rfl | rfl | rfl; exact absurd rfl e; rfl; rfl⟩
    rw [dpE, Ex.bn, Ex.bns, Ex.bns]
    show 1 + (dpE op k).ns (if op = 5 then 3 else 6) = _
    unfold Ex.ns atN
    dsimp only
    rw [h1]
    by_cases e : op = 5
    · rw [if_pos e, if_neg (by have := h2 e; omega)]; omega
    · rw [if_neg e, h3 e, if_neg (by decide)]; omega
theorem dpE_ns {op : Int} (h : op = 5 ∨ op = 6 ∨ op = 7) (k : Nat) : (dpE op k).ns 1 = k := by
  unfold Ex.ns atN
  dsimp only
  rw [if_neg (by have := levelS_le (dpE op k).op; omega)]
  exact (dpE_lv h k).1
theorem dpE_nest {op : Int} (h : op = 5 ∨ op = 6 ∨ op = 7) (k : Nat) : nestP (dpE op k) = k := by
  unfold nestP
  rw [dpE_check h k, if_neg (by decide), dpE_ns h k]
theorem dpE_code {op : Int} (h : op = 5 ∨ op = 6 ∨ op = 7) {k : Nat} (hk : k ≤ 80) : (exprP (dpE op k)).2 = if 64 < k then 41 else 0 := by
  unfold exprP
  rw [dpE_check h k, if_neg (by decide), dpE_ns h k]
  by_cases h64 : 64 < k
  · rw [if_pos (by omega), if_pos h64]
  · rw [if_neg (by omega), if_neg h64]
    unfold toldS
    have := pr_len' _ (dpE op k) (Nat.le_refl _) (dpE_ok h k) 1 (by decide)
    rw [dpE_pre] at this
    rw [if_neg (by omega)]
/-! ### blocks -/
theorem dpB_len : ∀ k, (dpB k).length ≤ 1
  | 0 => Nat.zero_le _
  | k + 1 => Nat.le_refl _
theorem dpB_mem {k : Nat} {y : St} (h : y ∈ dpB k) : ∃ j, j < k ∧ y = ⟨5, [], [], 0, lv0, [dpB j], 0⟩ := by
  cases k with
  | zero => simp [dpB] at h
  | succ k => exact ⟨k, Nat.lt_succ_self _, by simpa [dpB] using h⟩
theorem dp_all {p : St → Prop} (h : ∀ j, (∀ y ∈ dpB j, p y) → p ⟨5, [], [], 0, lv0, [dpB j], 0⟩) (k : Nat) : ∀ y ∈ dpB k, p y := by
  induction k with
  | zero => intro y hy; simp [dpB] at hy
  | succ k ih =>
    intro y hy
    rw [show y = ⟨5, [], [], 0, lv0, [dpB k], 0⟩ by simpa [dpB] using hy]
    exact h k ih
theorem one_blk {α : Type} {b : List α} {p : List α → Prop} (h : p b) : ∀ c ∈ [b], p c := fun c hc => by rw [List.mem_singleton.1 hc]; exact h
theorem dp_len1 (k : Nat) : (dpB k).length < 1073741824 := by have := dpB_len k; omega
theorem dpB_f (k : Nat) : ∀ y ∈ dpB k, SF y := dp_all (fun j hj => .mk (by decide) (by decide) lv0_fits (by show 1 < 1073741824; decide) (one_blk (dp_len1 j)) (one_blk hj)) k
theorem dpB_n (k : Nat) : ∀ y ∈ dpB k, StN y := dp_all (fun j hj => .mk (fun h => absurd rfl h) (by show 1 < 1073741824; decide) (one_blk (dp_len1 j)) (one_blk hj)) k
theorem dpB_p (k : Nat) : ∀ y ∈ dpB k, StP y := dp_all (fun j hj => .mk (by decide) (by unfold R64; decide) (fun h => absurd h (by decide)) (fun h => absurd rfl h) (by show 1 < 1073741824; decide) (one_blk (dp_len1 j)) (one_blk hj)) k
theorem dpB_cn : ∀ k, St.cnL (dpB k) = k
  | 0 => rfl
  | k + 1 => by
    rw [dpB, St.cnL, St.cn, St.cnB, St.cnB, St.cnL, dpB_cn k]; omega
theorem dpB_ok : ∀ k, St.okL (dpB k) = true
  | 0 => rfl
  | k + 1 => by
    rw [dpB, St.okL, St.ok, St.okB, St.okB, St.okL, dpB_ok k]; rfl
theorem dpB_ns : ∀ (k : Nat) (o : Int), St.nsL (dpB k) o o = o + k
  | 0, o => by rw [dpB, St.nsL]; simp
  | k + 1, o => by
    rw [dpB, St.nsL, St.nsL, St.nsS, St.nsB, St.nsB, dpB_ns k (o + 1), if_pos (show lv0.op = 0 from rfl)]; omega
theorem dpP_check (k : Nat) : checkP (dpP k) = 0 := by
  unfold checkP Pg.ok dpP
  have e : Ro.ok ⟨[114], true, 0, dpB k, 0⟩ = true := by
    unfold Ro.ok
    rw [dpB_ok k]
    kernel_rfl
  simp only [List.all_cons, e]
  rfl
theorem dpP_nest (k : Nat) : nestPg (dpP k) = 1 + k := by
  unfold nestPg
  rw [dpP_check, if_neg (by decide)]
  show nsRos [⟨[114], true, 0, dpB k, 0⟩] 0 = _
  rw [nsRos, nsRos, dpB_ns k 1]
  omega
theorem dpB_tx : ∀ (k o : Nat), (St.txL (dpB k) o).length ≤ k * (4 * (o + k) + 20)
  | 0, o => by rw [dpB, St.txL]; simp
  | k + 1, o => by
    have ih := dpB_tx k (o + 1)
    rw [dpB, St.txL, St.txL, List.append_nil, St.tx, St.txB, St.txB]
    have e : (stK 5 [] [] 0 lv0 o ((sepB (wordOf 5) 0 ++ ([32, 123, 10] ++ (St.txL (dpB k) (o + 1) ++ (ind o ++ [125])))) ++ [] ++ [10])).length = 4 * o + 9 + (St.txL (dpB k) (o + 1)).length := by
      show ((ind o ++ [108, 111, 111, 112]) ++ (exT lv0 ++ ((sepB (wordOf 5) 0 ++ ([32, 123, 10] ++ (St.txL (dpB k) (o + 1) ++ (ind o ++ [125])))) ++ [] ++ [10]))).length = _
      have e1 : exT lv0 = [] := rfl
      have e2 : sepB (wordOf 5) 0 = [] := rfl
      rw [e1, e2]
      simp only [List.length_append, ind_len, List.length_cons, List.length_nil]
      omega
    rw [e]
    have h1 : (k + 1) * (4 * (o + (k + 1)) + 20) = k * (4 * (o + 1 + k) + 20) + (4 * (o + (k + 1)) + 20) := by
      rw [Nat.succ_mul, show o + (k + 1) = o + 1 + k by omega]
    omega
theorem dpP_len {k : Nat} (hk : k ≤ 80) : (textS (dpP k)).length ≤ 100000 := by
  show (([] : Str) ++ (roT ⟨[114], true, 0, dpB k, 0⟩ 0 ++ [])).length ≤ _
  have h := dpB_tx k 1
  have h2 : k * (4 * (1 + k) + 20) ≤ 80 * (4 * (1 + 80) + 20) := Nat.mul_le_mul hk (by omega)
  have e : blockT St.tx (dpB k) 0 = [32, 123, 10] ++ (St.txL (dpB k) 1 ++ (ind 0 ++ [125])) := by unfold blockT; rw [St.txL_cat]
  unfold roT
  dsimp only
  rw [e, if_pos rfl]
  simp only [List.length_append, List.length_cons, List.length_nil, ind_len]
  omega
theorem dpP_code {k : Nat} : ((textP (dpP k)).2 == 41) = decide (64 < k + 1) := by
  unfold textP
  rw [dpP_check, if_neg (by decide), dpP_nest]
  by_cases h : 64 < k + 1
  · rw [if_pos (by omega), decide_eq_true h]; rfl
  · rw [if_neg (by omega), decide_eq_false h]
    unfold toldS
    split <;> rfl
theorem dpP_c {k : Nat} (hk : k ≤ 80) : PFun Tryd.prog 16 [(dpP k).v] [] (.tup [sv' (textP (dpP k)).1, iv (textP (dpP k)).2]) [] := by
  have hm : ∀ (r : Ro) {p : Ro → Prop}, p ⟨[114], true, 0, dpB k, 0⟩ → r ∈ (dpP k).roles → p r := fun r p h hr => by
    rw [show r = ⟨[114], true, 0, dpB k, 0⟩ by simpa [dpP] using hr]; exact h
  refine text_c (dpP k) ⟨fun m hm => by simp [dpP] at hm, fun r hr => hm r (p := RoF) ⟨by show 1 < 1073741824; decide, ⟨dp_len1 k, dpB_f k⟩⟩ hr⟩ ⟨by show 0 < 1073741824; decide, by show 1 < 1073741824; decide, fun m hm => by simp [dpP] at hm, fun m hm => by simp [dpP] at hm, fun r hr => hm r (p := fun r => BN r.body) ⟨dp_len1 k, by rw [dpB_cn]; omega, dpB_n k⟩ hr⟩
    fun _ => ⟨⟨by show 0 < 1073741824; decide, by show 1 < 1073741824; decide, fun m hm => by simp [dpP] at hm, fun r hr => hm r (p := RoP) ⟨show R64 0 by unfold R64; decide, dp_len1 k, dpB_p k⟩ hr⟩, ?_⟩
  have := dpP_len hk
  have hR : room = 140737488355328 := rfl
  omega
end Go.Proofs.YtmflfcbebeikcaaDoor.Q

namespace Go.Proofs.YtmflfcbebeikcaaDoor.Q
open Go.RowKit
variable [Amb] [Pow]
theorem dpE_cells (op : Int) (i : Nat) : (dpE op (i + 1)).cells = [iv op, sv' [], sv' [], iv 0, .d (.sl [(dpE op i).row]), iv 0] := by
  show [iv op, sv' [], sv' [], iv 0, .d (.sl [(dpE op i).e]), iv 0] = _
  rw [Ex.e_row]
theorem dpB_rows (i : Nat) : (dpB (i + 1)).map St.c = [[.int .i64 5, .str [], .str [], .int .i64 0, .int .i64 0, .str [], .str [], .int .i64 0, .sl [], .int .i64 0, .sl [[.sl ((dpB i).map St.c)]], .int .i64 0]] := by
  show [St.c ⟨5, [], [], 0, lv0, [dpB i], 0⟩] = _
  rw [St.c_eq]
  rfl
theorem dpP_v (k : Nat) : (dpP k).v = .agg [.d (.sl []), .d (.sl [[.str [114], .bool true, .int .i64 0, .sl ((dpB k).map St.c), .int .i64 0]])] := rfl
theorem printDeep_t (n op : Int) (hn : R64 n) (ho : R64 op) : PFun Tryd.prog 4 [iv n, iv op] [] (.d (.bool true)) [] := by
  refine fn_sem pok 83 0 Tryd.func4 (by kernel_rfl) rfl rfl rfl rfl ?_
  refine SWp.go pok (by kernel_rfl) ?_
  by_cases h1 : n < 0
  · refine brP_true (decide_eq_true h1) ?_
    exact PFun.call live03_c (fin1 rfl)
  refine brP_false (decide_eq_false h1) ?_
  by_cases h2 : 80 < n
  · refine brP_true (decide_eq_true h2) ?_
    exact PFun.call live03_c (fin1 rfl)
  refine brP_false (decide_eq_false h2) ?_
  obtain ⟨k, rfl⟩ : ∃ k : Nat, n = k := ⟨n.toNat, by omega⟩
  have hk : k ≤ 80 := by omega
  by_cases hop : op = 5 ∨ op = 6 ∨ op = 7
  · have e1 := dpE_nest hop k
    have e2 := dpE_code hop hk
    have e3 := dpP_code (k := k)
    have c1 := printExpr_c (dpE op k) (dpE_fits op hk) (dpE_ok hop k).num fun he => by
      have := pr_len' _ (dpE op k) (Nat.le_refl _) he 1 (by decide)
      rw [dpE_pre] at this
      omega
    have c2 := nestExpr_c (dpE op k) (dpE_fits op hk) (dpE_ok hop k).num
    have c3 := dpP_c hk
    rw [e1] at c2
    rw [dpP_v] at c3
    generalize exprP (dpE op k) = x at e2 c1
    generalize textP (dpP k) = t at e3 c3
    obtain ⟨x1, x2⟩ := x
    obtain ⟨t1, t2⟩ := t
    dsimp only at e2 e3 c1 c3
    rcases hop with rfl | rfl | rfl
    · refine PFun.call (v03_c [120]) ?_
      refine SWp.loop (fun i : Nat => i ≤ k) (fun i => ([(0, iv k), (1, iv 5), (5, .ptr 0 0), (6, .fsl ((dpB i).map St.c)), (7, iv i)], [.box (dpE 5 i).cells])) (fun i => k - i) 0 (Nat.zero_le _) (Le.same ⟨rfl, rfl, rfl, rfl, rfl, trivial⟩) (fun i hi => ?_)
      cases i with
      | zero =>
        refine SWp.go pok (by kernel_rfl) ?_
        refine brP_split (fun h => ?_) (fun h => ?_)
        · have hlt : 0 < k := by simpa using h
          refine ⟨0 + 1, hlt, by omega, ?_⟩
          dsimp only
          rw [dpE_cells, dpB_rows]
          exact Le.same ⟨rfl, rfl, rfl, rfl, rfl, trivial⟩
        have hik : k = 0 := by simp at h; omega
        subst hik
        refine PFun.call c1 ?_
        refine PFun.call c3 ?_
        refine PFun.call c2 ?_
        rw [if_neg (by decide)] at e2
        subst e2
        refine PFun.call (num03_c _) ?_
        refine PFun.call (num03_c _) ?_
        refine brP_false (e3.trans (by decide)) ?_
        refine PFun.call live03_c ?_
        exact fin1 rfl
      | succ i =>
        refine SWp.go pok (by kernel_rfl) ?_
        refine brP_split (fun h => ?_) (fun h => ?_)
        · have hlt : i + 1 < k := by simp at h; omega
          refine ⟨i + 1 + 1, hlt, by omega, ?_⟩
          dsimp only
          rw [dpE_cells, dpB_rows]
          exact Le.same ⟨rfl, rfl, rfl, rfl, sint (wrap_nat (i + 1) (by omega)), trivial⟩
        have hik : k = i + 1 := by simp at h; omega
        subst hik
        refine PFun.call c1 ?_
        refine PFun.call c3 ?_
        refine PFun.call c2 ?_
        refine brP_true (by simp) ?_
        refine PFun.call (num03_c _) ?_
        have hw : IntKind.i64.wrap (((i + 1 : Nat) : Int) + 1) = ((i + 1 + 1 : Nat) : Int) := wrap_nat (i + 1) (by omega)
        by_cases h64 : 64 < i + 1
        · rw [if_pos h64] at e2
          subst e2
          refine brP_true (by simp; omega) ?_
          refine PFun.call (num03_c _) ?_
          refine brP_true (e3.trans (by simp; omega)) ?_
          refine brP_true (by rw [hw]; simp; omega) ?_
          refine PFun.call live03_c ?_
          exact fin1 rfl
        · rw [if_neg h64] at e2
          subst e2
          refine brP_false (by simp; omega) ?_
          refine PFun.call (num03_c _) ?_
          by_cases h65 : 64 < i + 1 + 1
          · refine brP_true (e3.trans (by simp; omega)) ?_
            refine brP_true (by rw [hw]; simp; omega) ?_
            refine PFun.call live03_c ?_
            exact fin1 rfl
          · refine brP_false (e3.trans (by simp; omega)) ?_
            refine brP_false (by rw [hw]; simp; omega) ?_
            refine PFun.call live03_c ?_
            exact fin1 rfl
    · refine PFun.call (v03_c [120]) ?_
      refine SWp.loop (fun i : Nat => i ≤ k) (fun i => ([(0, iv k), (1, iv 6), (5, .ptr 0 0), (6, .fsl ((dpB i).map St.c)), (7, iv i)], [.box (dpE 6 i).cells])) (fun i => k - i) 0 (Nat.zero_le _) (Le.same ⟨rfl, rfl, rfl, rfl, rfl, trivial⟩) (fun i hi => ?_)
      cases i with
      | zero =>
        refine SWp.go pok (by kernel_rfl) ?_
        refine brP_split (fun h => ?_) (fun h => ?_)
        · have hlt : 0 < k := by simpa using h
          refine ⟨0 + 1, hlt, by omega, ?_⟩
          dsimp only
          rw [dpE_cells, dpB_rows]
          exact Le.same ⟨rfl, rfl, rfl, rfl, rfl, trivial⟩
        have hik : k = 0 := by simp at h; omega
        subst hik
        refine PFun.call c1 ?_
        refine PFun.call c3 ?_
        refine PFun.call c2 ?_
        rw [if_neg (by decide)] at e2
        subst e2
        refine PFun.call (num03_c _) ?_
        refine PFun.call (num03_c _) ?_
        refine brP_false (e3.trans (by decide)) ?_
        refine PFun.call live03_c ?_
        exact fin1 rfl
      | succ i =>
        refine SWp.go pok (by kernel_rfl) ?_
        refine brP_split (fun h => ?_) (fun h => ?_)
        · have hlt : i + 1 < k := by simp at h; omega
          refine ⟨i + 1 + 1, hlt, by omega, ?_⟩
          dsimp only
          rw [dpE_cells, dpB_rows]
          exact Le.same ⟨rfl, rfl, rfl, rfl, sint (wrap_nat (i + 1) (by omega)), trivial⟩
        have hik : k = i + 1 := by simp at h; omega
        subst hik
        refine PFun.call c1 ?_
        refine PFun.call c3 ?_
        refine PFun.call c2 ?_
        refine brP_true (by simp) ?_
        refine PFun.call (num03_c _) ?_
        have hw : IntKind.i64.wrap (((i + 1 : Nat) : Int) + 1) = ((i + 1 + 1 : Nat) : Int) := wrap_nat (i + 1) (by omega)
        by_cases h64 : 64 < i + 1
        · rw [if_pos h64] at e2
          subst e2
          refine brP_true (by simp; omega) ?_
          refine PFun.call (num03_c _) ?_
          refine brP_true (e3.trans (by simp; omega)) ?_
          refine brP_true (by rw [hw]; simp; omega) ?_
          refine PFun.call live03_c ?_
          exact fin1 rfl
        · rw [if_neg h64] at e2
          subst e2
          refine brP_false (by simp; omega) ?_
          refine PFun.call (num03_c _) ?_
          by_cases h65 : 64 < i + 1 + 1
          · refine brP_true (e3.trans (by simp; omega)) ?_
            refine brP_true (by rw [hw]; simp; omega) ?_
            refine PFun.call live03_c ?_
            exact fin1 rfl
          · refine brP_false (e3.trans (by simp; omega)) ?_
            refine brP_false (by rw [hw]; simp; omega) ?_
            refine PFun.call live03_c ?_
            exact fin1 rfl
    · refine PFun.call (v03_c [120]) ?_
      refine SWp.loop (fun i : Nat => i ≤ k) (fun i => ([(0, iv k), (1, iv 7), (5, .ptr 0 0), (6, .fsl ((dpB i).map St.c)), (7, iv i)], [.box (dpE 7 i).cells])) (fun i => k - i) 0 (Nat.zero_le _) (Le.same ⟨rfl, rfl, rfl, rfl, rfl, trivial⟩) (fun i hi => ?_)
      cases i with
      | zero =>
        refine SWp.go pok (by kernel_rfl) ?_
        refine brP_split (fun h => ?_) (fun h => ?_)
        · have hlt : 0 < k := by simpa using h
          refine ⟨0 + 1, hlt, by omega, ?_⟩
          dsimp only
          rw [dpE_cells, dpB_rows]
          exact Le.same ⟨rfl, rfl, rfl, rfl, rfl, trivial⟩
        have hik : k = 0 := by simp at h; omega
        subst hik
        refine PFun.call c1 ?_
        refine PFun.call c3 ?_
        refine PFun.call c2 ?_
        rw [if_neg (by decide)] at e2
        subst e2
        refine PFun.call (num03_c _) ?_
        refine PFun.call (num03_c _) ?_
        refine brP_false (e3.trans (by decide)) ?_
        refine PFun.call live03_c ?_
        exact fin1 rfl
      | succ i =>
        refine SWp.go pok (by kernel_rfl) ?_
        refine brP_split (fun h => ?_) (fun h => ?_)
        · have hlt : i + 1 < k := by simp at h; omega
          refine ⟨i + 1 + 1, hlt, by omega, ?_⟩
          dsimp only
          rw [dpE_cells, dpB_rows]
          exact Le.same ⟨rfl, rfl, rfl, rfl, sint (wrap_nat (i + 1) (by omega)), trivial⟩
        have hik : k = i + 1 := by simp at h; omega
        subst hik
        refine PFun.call c1 ?_
        refine PFun.call c3 ?_
        refine PFun.call c2 ?_
        refine brP_true (by simp) ?_
        refine PFun.call (num03_c _) ?_
        have hw : IntKind.i64.wrap (((i + 1 : Nat) : Int) + 1) = ((i + 1 + 1 : Nat) : Int) := wrap_nat (i + 1) (by omega)
        by_cases h64 : 64 < i + 1
        · rw [if_pos h64] at e2
          subst e2
          refine brP_true (by simp; omega) ?_
          refine PFun.call (num03_c _) ?_
          refine brP_true (e3.trans (by simp; omega)) ?_
          refine brP_true (by rw [hw]; simp; omega) ?_
          refine PFun.call live03_c ?_
          exact fin1 rfl
        · rw [if_neg h64] at e2
          subst e2
          refine brP_false (by simp; omega) ?_
          refine PFun.call (num03_c _) ?_
          by_cases h65 : 64 < i + 1 + 1
          · refine brP_true (e3.trans (by simp; omega)) ?_
            refine brP_true (by rw [hw]; simp; omega) ?_
            refine PFun.call live03_c ?_
            exact fin1 rfl
          · refine brP_false (e3.trans (by simp; omega)) ?_
            refine brP_false (by rw [hw]; simp; omega) ?_
            refine PFun.call live03_c ?_
            exact fin1 rfl
  · have n5 : ¬ op = 5 := fun h => hop (.inl h)
    have n6 : ¬ op = 6 := fun h => hop (.inr (.inl h))
    have n7 : ¬ op = 7 := fun h => hop (.inr (.inr h))
    refine brP_true (by simpa using n5) ?_
    refine brP_true (by simpa using n6) ?_
    refine brP_true (by simpa using n7) ?_
    exact PFun.call live03_c (fin1 rfl)
end Go.Proofs.YtmflfcbebeikcaaDoor.Q

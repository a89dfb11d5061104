/- Rows of a bed of at most five crops in which nothing is sown, walked. Their conditions are their premises. -/
import Derived.Test.YtmmpdfcnenljhaaF23
set_option linter.unusedVariables false
namespace Go
section
variable {P : Program}
/-- A copy into a block that is known whole, the world behind it a variable. -/
theorem run_copy_blk (w : World) (dT sT ty elem : TypeId) (sz : Nat) (hu : P.underlying dT = some (.slice elem)) (hsz : (P.info? elem).map (·.size) = some sz)
    (g off : Nat) (ad : Addr) (dLen dCap sLen sCap : Nat) (cur : List Value) (t : TypeId) (hg : Blk w g t cur) (cs : List Value) (hn : cs.length = Nat.min sLen dLen * sz) (hsrc : ∀ j v, cs[j]? = some v → w.cell? (ad.add j) = some v)
    (hfit : off + cs.length ≤ cur.length) (h1 : ∀ v ∈ cs, v.oneCell' = true) :
    ∃ w', (Builtin.copy_ #[dT, sT] ty #[.slice (some ⟨g, off, none⟩) dLen dCap, .slice (some ad) sLen sCap]).run P w = .ok (goInt (Nat.min sLen dLen)) w' ∧
      Blk w' g t (cur.take off ++ cs ++ cur.drop (off + cs.length)) ∧ Chg (fun k => k = g) w w' := by
  have hrun := run_copy_rows (P := P) w dT sT ty elem sz g off dLen dCap ad sLen sCap cur.toArray t cs hu hsz hg hn hsrc (by simpa using hfit) h1
  refine ⟨_, hrun, ?_, (Chg.refl (fun k => k = g) w).setRow (.inl rfl) _⟩
  have := setRow_heap w g cur.toArray (cur.take off ++ cs ++ cur.drop (off + cs.length)).toArray t (0, 0) hg
  unfold Blk
  simpa using this
end
end Go
namespace Go.Proofs.Ytmmpdfcnenljhaa
open Go.RowKit

theorem index_nil (fn : Value) (w : World) : Calls Try.prog 88 #[.slice none 0 0, fn] w fun e w' => e = .returned (.int .i64 (-1)) ∧ w' = w := by
  go_enter Try.func88, Try.ntmps88
  go_wp2_with fail
  go_loopg [8] 0 (fun gm iv wr => gm = 0 ∧ iv = .int .i64 0 ∧ wr = w)
  case atStart => exact ⟨rfl, rfl, rfl⟩
  case round =>
    obtain ⟨rfl, rfl, rfl⟩ := hrel
    go_wp2_with fail
    go_ret
    exact ⟨rfl, rfl⟩

theorem contains_nil (fn : Value) (w : World) : Calls Try.prog 56 #[.slice none 0 0, fn] w fun e w' => e = .returned (.bool false) ∧ w' = w := by
  go_enter Try.func56, Try.ntmps56
  go_wp2_with fail
  refine (index_nil fn w).mono ?_
  rintro e w1 ⟨rfl, rfl⟩
  go_wp2_with fail
  go_ret
  exact ⟨rfl, rfl⟩

theorem clash_nil (w : World) : Calls Try.prog 60 #[.slice none 0 0] w fun e w' => e = .returned (.tuple #[.int .i64 0, .int .i64 0, .bool false]) ∧ w' = w := by
  go_enter Try.func60, Try.ntmps60
  go_wp2_with fail
  go_loopg [12] 0 (fun gm iv wr => gm = 0 ∧ iv = .int .i64 0 ∧ wr = w)
  case atStart => exact ⟨rfl, rfl, rfl⟩
  case round =>
    obtain ⟨rfl, rfl, rfl⟩ := hrel
    go_wp2_with fail
    go_ret3
    exact ⟨rfl, rfl⟩

theorem start_nil (n : Nat) (w : World) (h1 : 1 ≤ n) (h2 : n ≤ 5) : Calls Try.prog 27 #[.int .i64 (n : Int), .slice none 0 0] w fun e w' => e = .returned (.bool true) ∧ Chg (fun _ => False) w w' := by
  have hmf : ∀ (fn : Fn) (first cap : Array Value) (w : World), (Instr.makeFunc fn first cap).run Try.prog w = .ok (.func fn first cap) w := fun _ _ _ _ => rfl
  have HC0 := Lib.hid ((Chg.refl (fun _ => False) w).alloc (.cells #[.int .i64 (n : Int)] 3))
  have d1 : decide ((n : Int) < 1) = false := by rw [decide_eq_false_iff_not]; omega
  have d2 : decide (7 < (n : Int)) = false := by rw [decide_eq_false_iff_not]; omega
  have d3 : decide ((n : Int) < 0) = false := by rw [decide_eq_false_iff_not]; omega
  go_enter Try.func27, Try.ntmps27
  go_wp2_with fail
  generalize w.alloc (.cells #[.int .i64 (n : Int)] 3) = W at HC0 ⊢
  refine (contains_nil _ W).mono ?_
  rintro e w1 ⟨rfl, rfl⟩
  go_wp2_with fail
  refine (clash_nil w1).mono ?_
  rintro e w2 ⟨rfl, rfl⟩
  go_wp2_with fail
  go_ret
  exact ⟨rfl, HC0.out⟩

theorem mul64_small (n : Nat) (w : World) (h1 : 1 ≤ n) (h2 : n ≤ 5) : Calls Try.prog 106 #[.int .u64 1, .int .u64 (n : Int)] w fun e w' => e = .returned (.tuple #[.int .u64 0, .int .u64 (n : Int)]) ∧ w' = w := by
  rcases (by omega : n = 1 ∨ n = 2 ∨ n = 3 ∨ n = 4 ∨ n = 5) with rfl | rfl | rfl | rfl | rfl
  all_goals
    go_enter Try.func106, Try.ntmps106
    go_wp2_with fail
    go_ret2
    exact ⟨rfl, rfl⟩

theorem mul_small (n : Nat) (w : World) (h1 : 1 ≤ n) (h2 : n ≤ 5) : Calls Try.prog 92 #[.int .u64 1, .int .u64 (n : Int)] w fun e w' => e = .returned (.tuple #[.int .u64 0, .int .u64 (n : Int)]) ∧ w' = w := by
  go_enter Try.func92, Try.ntmps92
  go_wp2_with fail
  refine (mul64_small n w h1 h2).mono ?_
  rintro e w1 ⟨rfl, rfl⟩
  go_wp2_with fail
  go_ret2
  exact ⟨rfl, rfl⟩

/-- A row under way: its first k numbers are x. -/
def repTo (x : Int) (n k : Nat) : List Int := List.replicate k x ++ List.replicate (n - k) 0
theorem repTo_len (x : Int) {n k : Nat} (h : k ≤ n) : (repTo x n k).length = n := by unfold repTo; simp; omega
theorem repTo_next (x : Int) {n k m : Nat} (h : k + m ≤ n) (hm : m ≤ k) : (repTo x n k).take k ++ (repTo x n k).take m ++ (repTo x n k).drop (k + m) = repTo x n (k + m) := by
  unfold repTo
  rw [List.take_append_of_le_length (by simp), List.take_append_of_le_length (by simpa using hm), List.drop_append, List.take_replicate, List.take_replicate, List.drop_replicate, List.drop_replicate, List.length_replicate, Nat.min_self, Nat.min_eq_left hm, show k - (k + m) = 0 by omega, show n - k - (k + m - k) = n - (k + m) by omega, List.replicate_append_replicate]
  simp

set_option maxRecDepth 100000 in
set_option maxHeartbeats 2000000 in
theorem repeat_any (x : Int) (n xb : Nat) (w : World) (hx : w.cell? ⟨xb, 0, none⟩ = some (.int .i64 x)) (h1 : 1 ≤ n) (h2 : n ≤ 5) :
    Calls Try.prog 61 #[.slice (some ⟨xb, 0, none⟩) 1 1, .int .i64 (n : Int)] w fun e w' => ∃ g, e = .returned (.slice (some ⟨g, 0, none⟩) n n) ∧ Blk w' g 3 ((List.replicate n x).map (Value.int .i64)) ∧ Chg (fun _ => False) w w' := by
  have hxl := World.cell_lt hx
  have HX := Lib.hid hx
  clear hx
  have hmk := make_ints n (by omega)
  have HB := Lib.hid (made_blk n w)
  have HC0 := Lib.hid ((Chg.refl (fun _ => False) w).alloc (.cells (Array.replicate n (.int .i64 0)) 3))
  obtain ⟨g, hg⟩ : ∃ g, w.heap.size = g := ⟨_, rfl⟩
  rw [hg] at HB
  have d1 : decide ((n : Int) < 0) = false := by rw [decide_eq_false_iff_not]; omega
  go_enter Try.func61, Try.ntmps61
  go_wp2_with fail
  refine (mul_small n w h1 h2).mono ?_
  rintro e w1 ⟨rfl, rfl⟩
  have hwr : IntKind.i64.wrap (n : Int) = (n : Int) := IntWalk.i64_in _ (by omega)
  have d2 : decide ((9223372036854775807 : Int) < (n : Int)) = false := by rw [decide_eq_false_iff_not]; omega
  have HZ := Lib.hid (show w1.heap.size ≤ g by omega)
  have hne : xb ≠ g := by omega
  have HSRC : Hid (∀ j v, [Value.int .i64 x][j]? = some v → (w1.alloc (.cells (Array.replicate n (.int .i64 0)) 3)).cell? ((⟨xb, 0, none⟩ : Addr).add j) = some v) := Lib.hid (fun j v hj => by
    rw [add_plain, Nat.zero_add]
    have : j = 0 := by have := (List.getElem?_eq_some_iff.1 hj).1; simp at this; exact this
    subst this
    simp at hj
    subst hj
    exact HC0.out.cell_some HX.out (fun x => x))
  obtain ⟨W3, hcp, hb3, hc3⟩ := run_copy_blk (P := Try.prog) (w1.alloc (.cells (Array.replicate n (.int .i64 0)) 3)) 40 40 3 3 1 Try.underlying40 (by kernel_rfl) g 0 ⟨xb, 0, none⟩ n n 1 1 _ 3 HB.out [Value.int .i64 x] (by simp [Nat.min_def]; omega) HSRC.out (by simp; omega) (by intro u hu; simp at hu; subst hu; rfl)
  rw [show Nat.min 1 n = 1 by simp [Nat.min_def]; omega] at hcp
  have HB3 : Hid (Blk W3 g 3 ((repTo x n 1).map (Value.int .i64))) := Lib.hid (by
    have : (repTo x n 1).map (Value.int .i64) = ((List.replicate n (0 : Int)).map (Value.int .i64)).take 0 ++ [Value.int .i64 x] ++ ((List.replicate n (0 : Int)).map (Value.int .i64)).drop (0 + [Value.int .i64 x].length) := by
      unfold repTo; simp
    rw [this]; exact hb3)
  have HC3 := Lib.hid (HC0.out.trans hc3 (fun k hk => .inr (by have := HZ.out; omega)))
  clear hb3 hc3
  go_wp2_with fail
  clear hcp hwr d2 d1 hmk HC0 HB HSRC
  go_loopg [8] (n - 1) (fun gm kv wr => ∃ k : Nat, 1 ≤ k ∧ k ≤ n ∧ gm = n - k ∧ kv = .int .i64 k ∧ Blk wr g 3 ((repTo x n k).map (Value.int .i64)) ∧ Chg (fun _ => False) w1 wr)
  case atStart => exact ⟨1, Nat.le_refl _, h1, rfl, rfl, HB3.out, HC3.out⟩
  case round =>
    clear HB3 HC3
    obtain ⟨k, k1, kn, rfl, rfl, hb, hcg⟩ := hrel
    have HB := Lib.hid hb; have HCG := Lib.hid hcg
    clear hb hcg
    by_cases hlt : k < n
    · have hlen := repTo_len x kn
      have hmn : Nat.min k (n - k) ≤ k ∧ k + Nat.min k (n - k) ≤ n ∧ 1 ≤ Nat.min k (n - k) := by simp only [Nat.min_def]; split <;> omega
      obtain ⟨W4, hcp, hb4, hc4⟩ := run_copy_blk (P := Try.prog) wr.drew 40 40 3 3 1 Try.underlying40 (by kernel_rfl) g k ⟨g, 0, none⟩ (n - k) (n - k) k n _ 3 HB.out.drew (((repTo x n k).map (Value.int .i64)).take (Nat.min k (n - k))) (by rw [List.length_take, List.length_map, hlen, Nat.mul_one]; omega) (fun j v hj => by
        rw [add_plain, Nat.zero_add]
        rw [List.getElem?_take] at hj
        split at hj
        · exact HB.out.drew.cell_some hj
        · cases hj) (by rw [List.length_take, List.length_map, hlen]; omega) (fun u hu => ints_one _ u (List.mem_of_mem_take hu))
      have HB4 : Hid (Blk W4 g 3 ((repTo x n (k + Nat.min k (n - k))).map (Value.int .i64))) := Lib.hid (by
        rw [← repTo_next x hmn.2.1 hmn.1, List.map_append, List.map_append, List.map_take, List.map_take, List.map_drop]
        have e : (((repTo x n k).map (Value.int .i64)).take (Nat.min k (n - k))).length = Nat.min k (n - k) := by rw [List.length_take, List.length_map, hlen]; omega
        rw [e] at hb4
        exact hb4)
      have HC4 := Lib.hid ((HCG.out.drew).trans hc4 (fun kk hk => .inr (by have := HZ.out; omega)))
      obtain ⟨m, hm⟩ : ∃ m, Nat.min k (n - k) = m := ⟨_, rfl⟩
      rw [hm] at hcp HB4 hmn
      obtain ⟨m1, m2, m3⟩ := hmn
      have hd : decide (k < n) = true := decide_eq_true hlt
      have hnk : (n - k == 0) = false := by rw [beq_eq_false_iff_ne]; omega
      clear hb4 hc4 hlen hm
      go_wp2_with fail
      go_region
      all_goals
        go_wp2_with fail
        go_roundg (n - (k + m))
        case measure => omega
        case rel => exact ⟨k + m, by omega, by omega, rfl, by go_num, HB4.out, HC4.out⟩
    · have hkn : k = n := by omega
      subst hkn
      have hd : decide (k < k) = false := by simp
      go_wp2_with fail
      go_ret
      refine ⟨g, rfl, ?_, HCG.out⟩
      have := HB.out
      unfold repTo at this
      simpa using this
end Go.Proofs.Ytmmpdfcnenljhaa

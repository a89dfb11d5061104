/- Texts on the vines, laid together (V60, V61, V62, V63, V64). Their conditions are their premises. -/
import Derived.Test.YtilacamhjibneaaDoorK1
import Derived.Test.YtilacamhjibneaaDoorK3
set_option linter.unusedVariables false
/- Determinants by the first row; the traces of Faddeev and LeVerrier are sums of minors. Plain facts. Their conditions are their premises. -/
namespace Go.Proofs.YtilacamhjibneaaDoor

/-- The sum of entries of a row, with alternating signs, times what is left of the columns. -/
def ex (g : Nat → Int) (F : List Nat → Int) : List Nat → Int
  | [] => 0
  | c :: cs => g c * F cs - ex g (fun l => F (c :: l)) cs
def det (a : Nat → Nat → Int) : List Nat → List Nat → Int
  | [], _ => 1
  | r :: rows, cols => ex (a r) (det a rows) cols

theorem ex_congr {g : Nat → Int} : ∀ (cs : List Nat) {F G : List Nat → Int}, (∀ l, F l = G l) → ex g F cs = ex g G cs
  | [], _, _, _ => rfl
  | c :: cs, F, G, h => by
    rw [ex, ex, h, ex_congr cs (F := fun l => F (c :: l)) (G := fun l => G (c :: l)) (fun l => h _)]
theorem ex_neg {g : Nat → Int} : ∀ (cs : List Nat) {F : List Nat → Int}, ex g (fun l => - F l) cs = - ex g F cs
  | [], _ => rfl
  | c :: cs, F => by
    have h := ex_neg (g := g) cs (F := fun l => F (c :: l))
    rw [ex, ex, h]
    grind
theorem ex_lin {g : Nat → Int} (x y : Int) : ∀ (cs : List Nat) {F G : List Nat → Int}, ex g (fun l => x * F l - y * G l) cs = x * ex g F cs - y * ex g G cs
  | [], _, _ => by simp [ex]
  | c :: cs, F, G => by
    have h := ex_lin (g := g) x y cs (F := fun l => F (c :: l)) (G := fun l => G (c :: l))
    rw [ex, ex, ex, h]
    grind
theorem ex_sub {g : Nat → Int} (cs : List Nat) (F G : List Nat → Int) : ex g (fun l => F l - G l) cs = ex g F cs - ex g G cs := by
  have h := ex_lin (g := g) 1 1 cs (F := F) (G := G)
  simpa using h
theorem ex_mul {g : Nat → Int} (x : Int) (cs : List Nat) (F : List Nat → Int) : ex g (fun l => x * F l) cs = x * ex g F cs := by
  have h := ex_lin (g := g) x 0 cs (F := F) (G := F)
  simpa using h
/-- Two rows exchanged. -/
theorem ex_swap (g h : Nat → Int) : ∀ (cs : List Nat) (F : List Nat → Int), ex g (fun l => ex h F l) cs = - ex h (fun l => ex g F l) cs
  | [], _ => rfl
  | c :: cs, F => by
    rw [ex, ex]
    have h1 : ex g (fun l => ex h F (c :: l)) cs = h c * ex g F cs - ex g (fun l => ex h (fun m => F (c :: m)) l) cs := by
      rw [show (fun l => ex h F (c :: l)) = (fun l => h c * F l - ex h (fun m => F (c :: m)) l) from rfl, ex_sub, ex_mul]
    have h2 : ex h (fun l => ex g F (c :: l)) cs = g c * ex h F cs - ex h (fun l => ex g (fun m => F (c :: m)) l) cs := by
      rw [show (fun l => ex g F (c :: l)) = (fun l => g c * F l - ex g (fun m => F (c :: m)) l) from rfl, ex_sub, ex_mul]
    have h3 := ex_swap g h cs (fun m => F (c :: m))
    rw [h1, h2, h3]
    grind
/-- Two columns exchanged. -/
theorem ex_cols (g : Nat → Int) (c d : Nat) (post : List Nat) : ∀ (pre : List Nat) (F : List Nat → Int), (∀ (p q : List Nat), p.length + q.length + 1 = pre.length + post.length → F (p ++ c :: d :: q) = - F (p ++ d :: c :: q)) → ex g F (pre ++ c :: d :: post) = - ex g F (pre ++ d :: c :: post)
  | [], F, hF => by
    have h : ex g (fun l => F (c :: d :: l)) post = - ex g (fun l => F (d :: c :: l)) post := by
      rw [← ex_neg]
      -- only the lists that are left matter
      have key : ∀ (cs : List Nat) (A B : List Nat → Int), (∀ l, l.length + 1 = cs.length → A l = B l) → ex g A cs = ex g B cs := by
        intro cs
        induction cs with
        | nil => intro A B _; rfl
        | cons c cs ih =>
          intro A B hAB
          rw [ex, ex, hAB cs rfl, ih (fun l => A (c :: l)) (fun l => B (c :: l)) (fun l hl => hAB _ (by simp [hl]))]
      exact key post _ _ (fun l hl => hF [] l (by simp; omega))
    simp only [List.nil_append, ex]
    rw [h]
    grind
  | e :: pre, F, hF => by
    have h := ex_cols g c d post pre (fun l => F (e :: l)) (fun p q hpq => by
      have := hF (e :: p) q (by simp; omega)
      simpa using this)
    have h0 := hF pre post (by simp; omega)
    simp only [List.cons_append, ex]
    rw [h, h0]
    grind

theorem det_cols (a : Nat → Nat → Int) (c d : Nat) : ∀ (rows pre post : List Nat), rows.length = pre.length + post.length + 2 → det a rows (pre ++ c :: d :: post) = - det a rows (pre ++ d :: c :: post)
  | [], pre, post, h => by simp at h
  | r :: rows, pre, post, h => by
    rw [det, det]
    exact ex_cols (a r) c d post pre (det a rows) (fun p q hpq => det_cols a c d rows p q (by simp at h; omega))
/-- A column goes to the front. -/
theorem det_col_front (a : Nat → Nat → Int) (c : Nat) (rows post : List Nat) : ∀ (pre post0 : List Nat), rows.length = post0.length + pre.length + post.length + 1 → det a rows (post0 ++ pre ++ c :: post) = (-1) ^ pre.length * det a rows (post0 ++ c :: (pre ++ post)) := by
  intro pre
  induction pre with
  | nil => intro p0 _; simp
  | cons d pre ih =>
    intro p0 h
    have h1 := ih (p0 ++ [d]) (by simp at h ⊢; omega)
    have h2 := det_cols a d c rows p0 (pre ++ post) (by simp at h ⊢; omega)
    have e1 : p0 ++ d :: pre ++ c :: post = p0 ++ [d] ++ pre ++ c :: post := by simp
    have e2 : p0 ++ [d] ++ c :: (pre ++ post) = p0 ++ d :: c :: (pre ++ post) := by simp
    rw [e1, h1, e2, h2, List.length_cons, Int.pow_succ]
    simp only [List.cons_append]
    grind
theorem det_row_swap (a : Nat → Nat → Int) (c d : Nat) (post : List Nat) : ∀ (pre cols : List Nat), det a (pre ++ c :: d :: post) cols = - det a (pre ++ d :: c :: post) cols
  | [], cols => by
    simp only [List.nil_append, det]
    exact ex_swap (a c) (a d) cols (det a post)
  | e :: pre, cols => by
    simp only [List.cons_append, det]
    rw [← ex_neg]
    exact ex_congr cols (fun l => det_row_swap a c d post pre l)
theorem det_row_front (a : Nat → Nat → Int) (c : Nat) (cols post : List Nat) : ∀ (pre p0 : List Nat), det a (p0 ++ pre ++ c :: post) cols = (-1) ^ pre.length * det a (p0 ++ c :: (pre ++ post)) cols := by
  intro pre
  induction pre with
  | nil => intro p0; simp
  | cons d pre ih =>
    intro p0
    have h1 := ih (p0 ++ [d])
    have h2 := det_row_swap a d c (pre ++ post) p0 cols
    have e1 : p0 ++ d :: pre ++ c :: post = p0 ++ [d] ++ pre ++ c :: post := by simp
    have e2 : p0 ++ [d] ++ c :: (pre ++ post) = p0 ++ d :: c :: (pre ++ post) := by simp
    rw [e1, h1, e2, h2, List.length_cons, Int.pow_succ]
    simp only [List.cons_append]
    grind
theorem one_pow (k : Nat) : ((-1 : Int) ^ k) * ((-1) ^ k) = 1 := by
  induction k with
  | zero => rfl
  | succ k ih => rw [Int.pow_succ]; grind
/-- A row that comes twice. -/
theorem det_row_twice (a : Nat → Nat → Int) (c : Nat) (cols S : List Nat) (h : c ∈ S) : det a (c :: S) cols = 0 := by
  obtain ⟨pre, post, rfl⟩ := List.append_of_mem h
  have h1 := det_row_front a c cols post pre [c]
  have h2 := det_row_swap a c c (pre ++ post) [] cols
  simp only [List.nil_append, List.cons_append] at h1 h2
  rw [h1]
  have h3 : det a (c :: c :: (pre ++ post)) cols = 0 := by omega
  rw [h3, Int.mul_zero]
/-- A column that comes twice. -/
theorem det_col_twice (a : Nat → Nat → Int) (c : Nat) (rows S : List Nat) (hl : rows.length = S.length + 1) (h : c ∈ S) : det a rows (c :: S) = 0 := by
  obtain ⟨pre, post, rfl⟩ := List.append_of_mem h
  have h1 := det_col_front a c rows post pre [c] (by simp at hl ⊢; omega)
  have h2 := det_cols a c c rows [] (pre ++ post) (by simp at hl ⊢; omega)
  simp only [List.nil_append, List.cons_append] at h1 h2
  rw [h1]
  have h3 : det a rows (c :: c :: (pre ++ post)) = 0 := by omega
  rw [h3, Int.mul_zero]
/-- A row and the column of the same number go to the front. -/
theorem det_front (a : Nat → Nat → Int) (c : Nat) (pre post : List Nat) : det a (pre ++ c :: post) (pre ++ c :: post) = det a (c :: (pre ++ post)) (c :: (pre ++ post)) := by
  have h1 := det_row_front a c (pre ++ c :: post) post pre []
  have h2 := det_col_front a c (c :: (pre ++ post)) post pre [] (by simp)
  simp only [List.nil_append] at h1 h2
  rw [h1, h2]
  have := one_pow pre.length
  grind

/-- The sum over a list of numbers. -/
def sumI (f : Nat → Int) : List Nat → Int
  | [] => 0
  | c :: l => f c + sumI f l
theorem sumI_congr {f g : Nat → Int} : ∀ (l : List Nat), (∀ x ∈ l, f x = g x) → sumI f l = sumI g l
  | [], _ => rfl
  | c :: l, h => by rw [sumI, sumI, h c (by simp), sumI_congr l (fun x hx => h x (by simp [hx]))]
theorem sumI_add (f g : Nat → Int) : ∀ (l : List Nat), sumI (fun x => f x + g x) l = sumI f l + sumI g l
  | [] => rfl
  | c :: l => by rw [sumI, sumI, sumI, sumI_add f g l]; omega
theorem sumI_mul (x : Int) (f : Nat → Int) : ∀ (l : List Nat), sumI (fun c => x * f c) l = x * sumI f l
  | [] => by simp [sumI]
  | c :: l => by rw [sumI, sumI, sumI_mul x f l]; grind
/-- The sum over the sublists of a length. -/
def sumS (f : List Nat → Int) : List Nat → Nat → Int
  | [], 0 => f []
  | [], _ + 1 => 0
  | c :: l, 0 => f []
  | c :: l, k + 1 => sumS (fun S => f (c :: S)) l k + sumS f l (k + 1)
theorem sumS_zero (f : List Nat → Int) : ∀ l, sumS f l 0 = f []
  | [] => rfl
  | _ :: _ => rfl
theorem sumS_congr : ∀ (l : List Nat) (k : Nat) {f g : List Nat → Int}, (∀ S, S.length = k → S.Sublist l → f S = g S) → sumS f l k = sumS g l k
  | [], 0, f, g, h => h [] rfl (List.Sublist.refl _)
  | [], k + 1, _, _, _ => rfl
  | c :: l, 0, f, g, h => h [] rfl (List.nil_sublist _)
  | c :: l, k + 1, f, g, h => by
    rw [sumS, sumS, sumS_congr l k (f := fun S => f (c :: S)) (g := fun S => g (c :: S)) (fun S hS hm => h _ (by simp [hS]) (hm.cons_cons c)),
      sumS_congr l (k + 1) (f := f) (g := g) (fun S hS hm => h S hS (hm.cons c))]
theorem sumS_add (f g : List Nat → Int) : ∀ (l : List Nat) (k : Nat), sumS (fun S => f S + g S) l k = sumS f l k + sumS g l k := by
  intro l
  induction l generalizing f g with
  | nil => intro k; cases k <;> rfl
  | cons c l ih =>
    intro k
    cases k with
    | zero => rfl
    | succ k => rw [sumS, sumS, sumS, ih (fun S => f (c :: S)) (fun S => g (c :: S)), ih f g]; omega
theorem sumS_mul (x : Int) (f : List Nat → Int) : ∀ (l : List Nat) (k : Nat), sumS (fun S => x * f S) l k = x * sumS f l k := by
  intro l
  induction l generalizing f with
  | nil =>
    intro k
    cases k
    · rfl
    · simp [sumS]
  | cons c l ih =>
    intro k
    cases k with
    | zero => rfl
    | succ k => rw [sumS, sumS, ih (fun S => f (c :: S)), ih f]; grind
theorem sumS_none (f : List Nat → Int) : ∀ (l : List Nat) (k : Nat), l.length < k → sumS f l k = 0 := by
  intro l
  induction l generalizing f with
  | nil =>
    intro k hk
    cases k
    · simp at hk
    · rfl
  | cons c l ih =>
    intro k hk
    cases k with
    | zero => simp at hk
    | succ k =>
      simp at hk
      rw [sumS, ih _ k hk, ih _ (k + 1) (by omega)]; rfl
theorem sumS_sum (f : Nat → List Nat → Int) : ∀ (m : List Nat) (l : List Nat) (k : Nat), sumS (fun S => sumI (fun x => f x S) m) l k = sumI (fun x => sumS (f x) l k) m
  | [], l, k => by
    show sumS (fun _ => 0) l k = 0
    have := sumS_mul 0 (fun _ => 0) l k
    simpa using this
  | c :: m, l, k => by
    rw [sumI, ← sumS_sum f m l k, ← sumS_add]
    rfl
/-- One of a list is taken out, each once. -/
def pick (H : Nat → List Nat → Int) : List Nat → Int
  | [] => 0
  | c :: S => H c S + pick (fun s S' => H s (c :: S')) S
theorem pick_sum : ∀ (l : List Nat) (k : Nat) (G : Nat → List Nat → Int), (∀ s S, s ∈ S → G s S = 0) → sumS (fun S => pick G S) l (k + 1) = sumI (fun s => sumS (G s) l k) l := by
  intro l
  induction l with
  | nil => intro k G _; rfl
  | cons c l ih =>
    intro k G hG
    rw [sumS, sumI]
    have h1 : sumS (fun S => pick G (c :: S)) l k = sumS (G c) l k + sumS (fun S => pick (fun s S' => G s (c :: S')) S) l k := by
      rw [← sumS_add]; rfl
    rw [h1, ih k G hG]
    cases k with
    | zero =>
      have e : sumI (fun s => sumS (G s) (c :: l) 0) l = sumI (fun s => sumS (G s) l 0) l := sumI_congr l (fun s _ => by rw [sumS_zero, sumS_zero])
      rw [e, sumS_zero, sumS_zero, sumS_zero]
      show G c [] + 0 + _ = _
      omega
    | succ k =>
      rw [ih k (fun s S' => G s (c :: S')) (fun s S hs => hG s _ (by simp [hs]))]
      have e : sumI (fun s => sumS (G s) (c :: l) (k + 1)) l = sumI (fun s => sumS (fun S => G s (c :: S)) l k) l + sumI (fun s => sumS (G s) l (k + 1)) l := by
        rw [← sumI_add]; rfl
      have e2 : sumS (G c) (c :: l) (k + 1) = sumS (G c) l (k + 1) := by
        rw [sumS]
        have : sumS (fun S => G c (c :: S)) l k = 0 := by
          rw [sumS_congr l k (g := fun _ => 0 * 0) (fun S _ _ => hG c _ (by simp)), sumS_mul, Int.zero_mul]
        omega
      rw [e, e2]
      omega

/-- The bordered minors. -/
def bor (a : Nat → Nat → Int) (i j : Nat) (S : List Nat) : Int := det a (i :: S) (j :: S)
/-- A minor by its first row, told as a sum over what is taken out. -/
theorem ex_to_pick (a : Nat → Nat → Int) (g : Nat → Int) (j : Nat) : ∀ (S p : List Nat), ex g (fun l => det a (p ++ S) (j :: (p ++ l))) S = (-1) ^ p.length * pick (fun s S' => g s * det a (s :: (p ++ S')) (j :: (p ++ S'))) S
  | [], p => by simp [ex, pick]
  | c :: S, p => by
    have h := ex_to_pick a g j S (p ++ [c])
    have e1 : ∀ l : List Nat, det a (p ++ c :: S) (j :: (p ++ c :: l)) = det a (p ++ [c] ++ S) (j :: (p ++ [c] ++ l)) := fun l => by simp
    rw [ex, pick, ex_congr S (G := fun l => det a (p ++ [c] ++ S) (j :: (p ++ [c] ++ l))) (fun l => e1 l), h]
    have h2 := det_row_front a c (j :: (p ++ S)) S p []
    simp only [List.nil_append] at h2
    rw [h2]
    have e2 : (fun s S' => g s * det a (s :: (p ++ [c] ++ S')) (j :: (p ++ [c] ++ S'))) = (fun s S' => (fun s S' => g s * det a (s :: (p ++ S')) (j :: (p ++ S'))) s (c :: S')) := by
      funext s S'
      simp
    rw [e2, List.length_append, List.length_singleton, Int.pow_succ]
    grind
theorem bor_pick (a : Nat → Nat → Int) (i j : Nat) (S : List Nat) : bor a i j S = a i j * det a S S - pick (fun s S' => a i s * bor a s j S') S := by
  have h := ex_to_pick a (a i) j S []
  simp only [List.nil_append, List.length_nil, Int.pow_zero, Int.one_mul] at h
  unfold bor
  rw [det, ex]
  rw [h]
/-- Each taken to the front leaves the minor as it is. -/
theorem pick_const (a : Nat → Nat → Int) : ∀ (S p : List Nat), pick (fun s S' => det a (s :: (p ++ S')) (s :: (p ++ S'))) S = (S.length : Int) * det a (p ++ S) (p ++ S)
  | [], p => by simp [pick]
  | c :: S, p => by
    have h := pick_const a S (p ++ [c])
    have e2 : (fun s S' => det a (s :: (p ++ [c] ++ S')) (s :: (p ++ [c] ++ S'))) = (fun s S' => (fun s S' => det a (s :: (p ++ S')) (s :: (p ++ S'))) s (c :: S')) := by
      funext s S'
      simp
    rw [e2] at h
    rw [pick, h, List.length_cons, ← det_front]
    have e : p ++ [c] ++ S = p ++ c :: S := by simp
    rw [e]
    grind

def eSum (a : Nat → Nat → Int) (n k : Nat) : Int := sumS (fun S => det a S S) (List.range n) k
def qSum (a : Nat → Nat → Int) (n k i j : Nat) : Int := sumS (bor a i j) (List.range n) k
theorem bor_zero (a : Nat → Nat → Int) (s j : Nat) (S : List Nat) (h : s ∈ S) : bor a s j S = 0 := det_row_twice a s _ S h
theorem qSum_next (a : Nat → Nat → Int) (n k i j : Nat) : qSum a n (k + 1) i j = a i j * eSum a n (k + 1) - sumI (fun s => a i s * qSum a n k s j) (List.range n) := by
  unfold qSum eSum
  rw [sumS_congr (List.range n) (k + 1) (g := fun S => a i j * det a S S + (-1) * pick (fun s S' => a i s * bor a s j S') S) (fun S _ _ => by rw [bor_pick]; omega), sumS_add, sumS_mul, sumS_mul,
    pick_sum _ _ _ (fun s S hs => by rw [bor_zero a s j S hs, Int.mul_zero])]
  rw [sumI_congr (List.range n) (g := fun s => a i s * sumS (bor a s j) (List.range n) k) (fun s _ => sumS_mul _ _ _ _)]
  omega
theorem qSum_zero (a : Nat → Nat → Int) (n i j : Nat) : qSum a n 0 i j = a i j := by
  unfold qSum
  rw [sumS_zero]
  simp [bor, det, ex]
theorem trace_q (a : Nat → Nat → Int) (n k : Nat) : sumI (fun i => qSum a n k i i) (List.range n) = ((k + 1 : Nat) : Int) * eSum a n (k + 1) := by
  unfold qSum eSum
  rw [← pick_sum (List.range n) k (fun s => bor a s s) (fun s S hs => bor_zero a s s S hs), ← sumS_mul]
  exact sumS_congr _ _ (fun S hS _ => by
    have h := pick_const a S []
    simp only [List.nil_append] at h
    show pick (fun s S' => det a (s :: S') (s :: S')) S = _
    rw [h, hS])
end Go.Proofs.YtilacamhjibneaaDoor

/- The rounds of Faddeev and LeVerrier, told; their bounds; Cayley and Hamilton. Plain facts. Their conditions are their premises. -/
namespace Go.Proofs.YtilacamhjibneaaDoor

def sgn (k : Nat) : Int := (-1) ^ k
theorem sgn_succ (k : Nat) : sgn (k + 1) = - sgn k := by unfold sgn; rw [Int.pow_succ]; omega
theorem sgn_sq (k : Nat) : sgn k * sgn k = 1 := one_pow k
theorem sgn_cases (k : Nat) : sgn k = 1 ∨ sgn k = -1 := by
  induction k with
  | zero => exact .inl rfl
  | succ k ih => rw [sgn_succ]; omega
def coef (a : Nat → Nat → Int) (n k : Nat) : Int := sgn k * eSum a n (k + 1)
def delta (i j : Nat) : Int := if i = j then 1 else 0
/-- The matrix after k rounds. -/
def flB (a : Nat → Nat → Int) (n : Nat) : Nat → Nat → Nat → Int
  | 0, i, j => delta i j
  | k + 1, i, j => sgn k * qSum a n k i j - delta i j * coef a n k
theorem sumI_delta (f : Nat → Int) (j : Nat) : ∀ (l : List Nat), l.Nodup → sumI (fun s => f s * delta s j) l = if j ∈ l then f j else 0
  | [], _ => rfl
  | c :: l, h => by
    rw [sumI, sumI_delta f j l (List.nodup_cons.1 h).2]
    have hc := (List.nodup_cons.1 h).1
    unfold delta
    by_cases hcj : c = j
    · subst hcj
      rw [if_pos rfl, if_neg hc, if_pos (by simp)]
      omega
    · rw [if_neg hcj]
      have : (j ∈ c :: l) ↔ j ∈ l := by simp; intro h; exact absurd h.symm hcj
      by_cases hj : j ∈ l
      · rw [if_pos hj, if_pos (this.2 hj)]; omega
      · rw [if_neg hj, if_neg (fun x => hj (this.1 x))]; omega
theorem sumI_sub (f g : Nat → Int) : ∀ (l : List Nat), sumI (fun x => f x - g x) l = sumI f l - sumI g l
  | [] => rfl
  | c :: l => by rw [sumI, sumI, sumI, sumI_sub f g l]; omega
/-- The next product. -/
theorem flB_prod (a : Nat → Nat → Int) (n k i j : Nat) (hj : j < n) : sumI (fun s => a i s * flB a n k s j) (List.range n) = sgn k * qSum a n k i j := by
  cases k with
  | zero =>
    show sumI (fun s => a i s * delta s j) (List.range n) = _
    rw [sumI_delta (a i) j (List.range n) List.nodup_range, if_pos (List.mem_range.2 hj), qSum_zero]
    simp [sgn]
  | succ k =>
    have h1 : sumI (fun s => a i s * flB a n (k + 1) s j) (List.range n) = sgn k * sumI (fun s => a i s * qSum a n k s j) (List.range n) - coef a n k * a i j := by
      rw [← sumI_mul]
      have h2 : coef a n k * a i j = sumI (fun s => (coef a n k * a i s) * delta s j) (List.range n) := by
        rw [sumI_delta (fun s => coef a n k * a i s) j (List.range n) List.nodup_range, if_pos (List.mem_range.2 hj)]
      rw [h2, ← sumI_sub]
      refine sumI_congr _ (fun s _ => ?_)
      rw [flB]
      grind
    rw [h1, qSum_next, sgn_succ]
    unfold coef
    grind
theorem flB_trace (a : Nat → Nat → Int) (n k : Nat) : sumI (fun i => sgn k * qSum a n k i i) (List.range n) = ((k + 1 : Nat) : Int) * coef a n k := by
  rw [sumI_mul, trace_q]
  unfold coef
  grind
theorem nodup_le : ∀ (l m : List Nat), l.Nodup → (∀ x ∈ l, x ∈ m) → l.length ≤ m.length
  | [], _, _, _ => Nat.zero_le _
  | c :: l, m, h, hm => by
    have h1 := nodup_le l (m.erase c) (List.nodup_cons.1 h).2 (fun x hx => by
      rw [List.mem_erase_of_ne]
      · exact hm x (by simp [hx])
      · intro e
        subst e
        exact (List.nodup_cons.1 h).1 hx)
    have h2 := List.length_erase_of_mem (hm c (by simp))
    have h3 := List.length_pos_of_mem (hm c (by simp))
    rw [List.length_cons]
    omega
/-- Cayley and Hamilton: behind n rounds nothing is left. -/
theorem flB_done (a : Nat → Nat → Int) (n i j : Nat) (hn : 0 < n) (hi : i < n) (hj : j < n) : flB a n n i j = 0 := by
  obtain ⟨m, rfl⟩ : ∃ m, n = m + 1 := ⟨n - 1, by omega⟩
  rw [flB]
  unfold coef
  have key : qSum a (m + 1) m i j = delta i j * eSum a (m + 1) (m + 1) := by
    by_cases hij : i = j
    · subst hij
      -- all traces' parts: only the full list without i is left
      have h1 := qSum_next a (m + 1) m i i
      unfold delta
      rw [if_pos rfl, Int.one_mul]
      -- the sum over sublists of length m of bordered minors equals the full minor
      unfold qSum eSum
      have full : ∀ (l : List Nat) (f : List Nat → Int), sumS f l l.length = f l := by
        intro l
        induction l with
        | nil => intro f; rfl
        | cons c l ih =>
          intro f
          rw [List.length_cons, sumS, ih, sumS_none f l (l.length + 1) (by omega)]
          simp
      have one : ∀ (l p : List Nat), l.Nodup → i ∈ l → ∀ f : List Nat → Int, (∀ S, i ∈ S → f S = 0) → (∀ x y, l = x ++ i :: y → sumS f l (x.length + y.length) = f (x ++ y)) := by
        intro l
        induction l with
        | nil => intro p _ h; cases h
        | cons c l ih =>
          intro p hnd him f hf x y hxy
          cases x with
          | nil =>
            simp only [List.nil_append, List.cons.injEq] at hxy
            obtain ⟨rfl, rfl⟩ := hxy
            simp only [List.length_nil, Nat.zero_add, List.nil_append]
            cases hl : l.length with
            | zero =>
              have : l = [] := List.eq_nil_of_length_eq_zero hl
              subst this
              rfl
            | succ q =>
              rw [sumS, ← hl, full]
              have : sumS (fun S => f (c :: S)) l q = 0 := by
                rw [sumS_congr l q (g := fun _ => 0 * 0) (fun S _ _ => hf _ (by simp)), sumS_mul, Int.zero_mul]
              omega
          | cons d x =>
            simp only [List.cons_append, List.cons.injEq] at hxy
            obtain ⟨rfl, rfl⟩ := hxy
            have hci : c ≠ i := by
              intro h
              subst h
              exact (List.nodup_cons.1 hnd).1 (by simp)
            rw [List.length_cons, show x.length + 1 + y.length = (x.length + y.length) + 1 by omega, sumS, ih p (List.nodup_cons.1 hnd).2 (by simp) (fun S => f (c :: S)) (fun S hS => hf _ (by simp [hS])) x y rfl]
            have : sumS f (x ++ i :: y) (x.length + y.length + 1) = 0 := by
              have e : x.length + y.length + 1 = (x ++ i :: y).length := by simp; omega
              rw [e, full]
              exact hf _ (by simp)
            rw [this]
            simp
      obtain ⟨x, y, hxy⟩ := List.append_of_mem (List.mem_range.2 hi)
      have hlen : x.length + y.length = m := by
        have := congrArg List.length hxy
        simp at this
        omega
      have h2 := one (List.range (m + 1)) [] List.nodup_range (List.mem_range.2 hi) (bor a i i) (fun S hS => bor_zero a i i S hS) x y hxy
      rw [hlen] at h2
      have h3 := full (List.range (m + 1)) (fun S => det a S S)
      rw [List.length_range] at h3
      rw [h2, h3, hxy, det_front]
      rfl
    · unfold delta
      rw [if_neg hij, Int.zero_mul]
      unfold qSum
      rw [sumS_congr (List.range (m + 1)) m (g := fun _ => 0 * 0) (fun S hS hm => ?_), sumS_mul, Int.zero_mul]
      by_cases h1 : i ∈ S
      · rw [bor_zero a i j S h1]; rfl
      · by_cases h2 : j ∈ S
        · exact (det_col_twice a j (i :: S) S (by simp) h2).trans (by rfl)
        · have hnd : (i :: j :: S).Nodup := by
            rw [List.nodup_cons, List.nodup_cons]
            exact ⟨by simp [h1, hij], h2, hm.nodup List.nodup_range⟩
          have := nodup_le (i :: j :: S) (List.range (m + 1)) hnd (fun x hx => by
            rcases List.mem_cons.1 hx with rfl | hx
            · exact List.mem_range.2 hi
            · rcases List.mem_cons.1 hx with rfl | hx
              · exact List.mem_range.2 hj
              · exact hm.subset hx)
          simp [hS] at this
          omega
  rw [key]
  grind
end Go.Proofs.YtilacamhjibneaaDoor

/- The program's rounds of Faddeev and LeVerrier are the exact ones. Plain facts. Their conditions are their premises. -/
namespace Go.Proofs.YtilacamhjibneaaDoor
open Go.RowKit

theorem nat_mul_abs {x y : Int} {a b : Nat} (h1 : x.natAbs ≤ a) (h2 : y.natAbs ≤ b) : (x * y).natAbs ≤ a * b := by
  rw [Int.natAbs_mul]
  exact Nat.mul_le_mul h1 h2
theorem ex_bound {g : Nat → Int} (hg : ∀ c, (g c).natAbs ≤ 8) : ∀ (cs : List Nat) (F : List Nat → Int) (B : Nat), (∀ l, l.length ≤ cs.length → (F l).natAbs ≤ B) → (ex g F cs).natAbs ≤ cs.length * (8 * B)
  | [], F, B, _ => by simp [ex]
  | c :: cs, F, B, h => by
    have h1 := ex_bound hg cs (fun l => F (c :: l)) B (fun l hl => h _ (by simp; omega))
    have h2 := nat_mul_abs (hg c) (h cs (by simp))
    have h3 : (cs.length + 1) * (8 * B) = cs.length * (8 * B) + 8 * B := Nat.succ_mul _ _
    rw [ex, List.length_cons]
    omega
theorem det_bound {a : Nat → Nat → Int} (ha : ∀ i j, (a i j).natAbs ≤ 8) : ∀ (rows cols : List Nat), cols.length ≤ 7 → (det a rows cols).natAbs ≤ 56 ^ rows.length
  | [], cols, _ => by simp [det]
  | r :: rows, cols, h => by
    have h1 := ex_bound (ha r) cols (det a rows) (56 ^ rows.length) (fun l hl => det_bound ha rows l (by omega))
    have h2 : cols.length * (8 * 56 ^ rows.length) ≤ 7 * (8 * 56 ^ rows.length) := Nat.mul_le_mul_right _ h
    rw [det, List.length_cons, Nat.pow_succ]
    omega
theorem sumS_bound : ∀ (l : List Nat) (k : Nat) (f : List Nat → Int) (B : Nat), (∀ S, S.length = k → (f S).natAbs ≤ B) → (sumS f l k).natAbs ≤ 2 ^ l.length * B
  | [], 0, f, B, h => by simpa [sumS] using h [] rfl
  | [], k + 1, f, B, _ => by simp [sumS]
  | c :: l, 0, f, B, h => by
    have h1 : 1 ≤ 2 ^ (c :: l).length := Nat.one_le_two_pow
    have h2 : 1 * B ≤ 2 ^ (c :: l).length * B := Nat.mul_le_mul_right _ h1
    have h3 := h [] rfl
    rw [sumS]
    omega
  | c :: l, k + 1, f, B, h => by
    have h1 := sumS_bound l k (fun S => f (c :: S)) B (fun S hS => h _ (by simp [hS]))
    have h2 := sumS_bound l (k + 1) f B h
    rw [sumS, List.length_cons, Nat.pow_succ]
    have h3 : 2 ^ l.length * 2 * B = 2 ^ l.length * B + 2 ^ l.length * B := by rw [Nat.mul_right_comm]; omega
    omega
def big : Nat := 1973822685184
theorem pow_56 {k : Nat} (h : k ≤ 6) : 56 ^ k ≤ 30840979456 := Nat.le_trans (Nat.pow_le_pow_right (by omega) h) (by decide)
theorem sum_small {n k : Nat} (hn : n ≤ 6) {f : List Nat → Int} (h : ∀ S, S.length = k → (f S).natAbs ≤ 30840979456) : (sumS f (List.range n) k).natAbs ≤ big := by
  have h1 := sumS_bound (List.range n) k f 30840979456 h
  rw [List.length_range] at h1
  have h2 : 2 ^ n ≤ 64 := Nat.le_trans (Nat.pow_le_pow_right (by omega) hn) (by decide)
  have h3 := Nat.mul_le_mul_right 30840979456 h2
  unfold big
  omega
theorem eSum_bound {a : Nat → Nat → Int} (ha : ∀ i j, (a i j).natAbs ≤ 8) {n k : Nat} (hn : n ≤ 6) (hk : k ≤ 6) : (eSum a n k).natAbs ≤ big :=
  sum_small hn (fun S hS => Nat.le_trans (det_bound ha S S (by omega)) (by rw [hS]; exact pow_56 hk))
theorem qSum_bound {a : Nat → Nat → Int} (ha : ∀ i j, (a i j).natAbs ≤ 8) {n k : Nat} (hn : n ≤ 6) (hk : k ≤ 5) (i j : Nat) : (qSum a n k i j).natAbs ≤ big :=
  sum_small hn (fun S hS => Nat.le_trans (det_bound ha (i :: S) (j :: S) (by simp; omega)) (by rw [List.length_cons, hS]; exact pow_56 (by omega)))
theorem sgn_abs (k : Nat) (x : Int) : (sgn k * x).natAbs = x.natAbs := by
  rcases sgn_cases k with h | h
  · rw [h, Int.one_mul]
  · rw [h]; omega
theorem coef_bound {a : Nat → Nat → Int} (ha : ∀ i j, (a i j).natAbs ≤ 8) {n k : Nat} (hn : n ≤ 6) (hk : k ≤ 5) : (coef a n k).natAbs ≤ big := by
  unfold coef
  rw [sgn_abs]
  exact eSum_bound ha hn (by omega)
theorem flB_bound {a : Nat → Nat → Int} (ha : ∀ i j, (a i j).natAbs ≤ 8) {n k : Nat} (hn : n ≤ 6) (hk : k ≤ 6) (i j : Nat) : (flB a n k i j).natAbs ≤ 2 * big := by
  cases k with
  | zero =>
    show (delta i j).natAbs ≤ _
    unfold delta big
    split <;> simp
  | succ k =>
    rw [flB]
    have h1 := qSum_bound ha hn (show k ≤ 5 by omega) i j
    have h2 := coef_bound ha hn (show k ≤ 5 by omega)
    have h3 := sgn_abs k (qSum a n k i j)
    have h4 : (delta i j * coef a n k).natAbs ≤ big := by
      unfold delta
      split
      · rw [Int.one_mul]; exact h2
      · rw [Int.zero_mul]; simp
    omega

theorem wrap_id {x : Int} (h : x.natAbs ≤ 9000000000000000000) : wrap64 x = x := by
  unfold wrap64
  omega
theorem sumI_append (f : Nat → Int) : ∀ (l m : List Nat), sumI f (l ++ m) = sumI f l + sumI f m
  | [], m => by simp [sumI]
  | c :: l, m => by rw [List.cons_append, sumI, sumI, sumI_append f l m]; omega
theorem sumI_range (f : Nat → Int) (k : Nat) : sumI f (List.range (k + 1)) = sumI f (List.range k) + f k := by
  rw [List.range_succ, sumI_append]
  simp [sumI]
theorem sumI_bound (f : Nat → Int) (B : Nat) (h : ∀ x, (f x).natAbs ≤ B) (k : Nat) : (sumI f (List.range k)).natAbs ≤ k * B := by
  induction k with
  | zero => simp [sumI]
  | succ k ih =>
    rw [sumI_range, Nat.succ_mul]
    have := h k
    omega
/-- The entries of a product, exact. -/
theorem prE_eq {A B : List (List Int)} {i j : Nat} {g : Nat → Int} (h : ∀ s, g s = ent A i s * ent B s j) (hb : ∀ s, (g s).natAbs ≤ 8 * (2 * big)) : ∀ k, k ≤ 6 → prE A B i j k = sumI g (List.range (k + 1))
  | 0, _ => by
    rw [prE, ← h, wrap_id (by have := hb 0; unfold big at this; omega)]
    simp [sumI, List.range_succ]
  | k + 1, hk => by
    have h1 := prE_eq h hb k (by omega)
    have h2 := sumI_bound g _ hb (k + 1 + 1)
    have h3 := hb (k + 1)
    have h4 : (k + 1 + 1) * (8 * (2 * big)) ≤ 8 * (8 * (2 * big)) := Nat.mul_le_mul_right _ (by omega)
    have hbig : big = 1973822685184 := rfl
    rw [prE, ← h, h1, wrap_id (x := g (k + 1)) (by omega), sumI_range g (k + 1), wrap_id]
    rw [sumI_range g (k + 1)] at h2
    omega
theorem trF_eq {B : List (List Int)} {g : Nat → Int} (b : Nat) (hb : ∀ s, (g s).natAbs ≤ b) (hb2 : b ≤ 1000000000000000000) : ∀ k, k ≤ 7 → (∀ s, s < k → g s = ent B s s) → trF B k = sumI g (List.range k)
  | 0, _, _ => rfl
  | k + 1, hk, h => by
    have h2 := sumI_bound g b hb (k + 1)
    have h4 : (k + 1) * b ≤ 7 * b := Nat.mul_le_mul_right _ hk
    have h5 : 7 * b ≤ 7 * 1000000000000000000 := Nat.mul_le_mul_left _ hb2
    rw [trF, trF_eq b hb hb2 k (by omega) (fun s hs => h s (by omega)), ← h k (by omega), ← sumI_range, wrap_id (by omega)]

/-- A list of rows, all of the same length. -/
structure Sq (n : Nat) (A : List (List Int)) : Prop where
  len : A.length = n
  rows : ∀ i, i < n → (row A i).length = n
theorem row_set (A : List (List Int)) (i k : Nat) (r : List Int) (h : i < A.length) : row (A.set i r) k = if i = k then r else row A k := by
  unfold row
  rw [List.getElem?_set]
  by_cases hk : i = k
  · subst hk; simp [h]
  · simp [hk]
theorem ent_setR (A : List (List Int)) (i j : Nat) (x : Int) (h : i < A.length) (hj : j < (row A i).length) (k m : Nat) : ent (A.set i ((row A i).set j x)) k m = if i = k ∧ j = m then x else ent A k m := by
  unfold ent
  rw [row_set A i k _ h]
  by_cases hk : i = k
  · subst hk
    rw [if_pos rfl, List.getElem?_set]
    by_cases hm : j = m
    · subst hm; simp [hj]
    · simp [hm]
  · simp [hk]
theorem Sq.set {n : Nat} {A : List (List Int)} (h : Sq n A) {i j : Nat} (hi : i < n) (x : Int) : Sq n (A.set i ((row A i).set j x)) := by
  refine ⟨by rw [List.length_set]; exact h.len, fun k hk => ?_⟩
  rw [row_set A i k _ (by rw [h.len]; exact hi)]
  split
  · rw [List.length_set]; exact h.rows i hi
  · exact h.rows k hk
theorem subF_eq {n : Nat} {B : List (List Int)} (h : Sq n B) (c : Int) : ∀ k, k ≤ n → Sq n (subF B c k) ∧ ∀ i j, ent (subF B c k) i j = if i = j ∧ i < k then wrap64 (ent B i i - c) else ent B i j
  | 0, _ => ⟨h, fun i j => by rw [subF, if_neg (by omega)]⟩
  | k + 1, hk => by
    obtain ⟨h1, h2⟩ := subF_eq h c k (by omega)
    refine ⟨h1.set (by omega) _, fun i j => ?_⟩
    rw [subF, ent_setR _ k k _ (by rw [h1.len]; omega) (by rw [h1.rows k (by omega)]; omega), h2 i j, h2 k k]
    by_cases hij : i = j
    · subst hij
      by_cases hki : k = i
      · subst hki; simp
      · simp only [hki, false_and, if_false, true_and]
        by_cases hlt : i < k
        · rw [if_pos hlt, if_pos (by omega)]
        · rw [if_neg hlt, if_neg (by omega)]
    · simp only [hij, false_and, if_false]
      rw [if_neg (by omega)]
theorem sq_prM (A B : List (List Int)) (n : Nat) : Sq n (prM A B n n) := by
  refine ⟨by simp [prM], fun i hi => ?_⟩
  unfold row prM
  rw [List.getElem?_map, List.getElem?_range hi]
  exact prR_len _ _ _ _ _
theorem ent_prM (A B : List (List Int)) {n i j : Nat} (hi : i < n) (hj : j < n) : ent (prM A B n n) i j = prE A B i j (n - 1) := by
  unfold ent row prM
  rw [List.getElem?_map, List.getElem?_range hi]
  simp only [Option.map_some, Option.getD_some]
  unfold prR
  rw [List.getElem?_map, List.getElem?_range hj]
  rfl
theorem sq_id (n : Nat) : Sq n (idM n n) := by
  refine ⟨by simp [idM], fun i hi => ?_⟩
  unfold row idM
  rw [List.getElem?_map, List.getElem?_range hi]
  simp [idR]
theorem ent_id {n i j : Nat} (hi : i < n) (hj : j < n) : ent (idM n n) i j = delta i j := by
  unfold ent row idM
  rw [List.getElem?_map, List.getElem?_range hi]
  simp only [Option.map_some, Option.getD_some]
  unfold idR delta
  rw [List.getElem?_set]
  by_cases h : i = j
  · subst h; simp [hi]
  · rw [if_neg h, if_neg h, List.getElem?_replicate, if_pos hj]
    rfl
theorem ent_out {n : Nat} {A : List (List Int)} (h : Sq n A) {i j : Nat} (hij : ¬ (i < n ∧ j < n)) : ent A i j = 0 := by
  unfold ent
  by_cases hi : i < n
  · rw [List.getElem?_eq_none (by rw [h.rows i hi]; omega)]; rfl
  · have : A[i]? = none := List.getElem?_eq_none (by rw [h.len]; omega)
    unfold row
    rw [this]
    simp
/-- The program's rounds are the exact ones. -/
theorem recF_eq {n : Nat} {M : List (List Int)} (hn : n ≤ 6) (h1 : 1 ≤ n) (hM : Sq n M) (hb : ∀ i j, (ent M i j).natAbs ≤ 8) : ∀ k, k ≤ n →
    Sq n (recF n M k).1 ∧ (∀ i j, i < n → j < n → ent (recF n M k).1 i j = flB (ent M) n k i j) ∧ (recF n M k).2 = (List.range k).map (coef (ent M) n)
  | 0, _ => ⟨sq_id n, fun i j hi hj => ent_id hi hj, rfl⟩
  | k + 1, hk => by
    obtain ⟨ih1, ih2, ih3⟩ := recF_eq hn h1 hM hb k (by omega)
    have hbig : big = 1973822685184 := rfl
    have hfl := flB_bound hb hn (show k ≤ 6 by omega)
    have hent : ∀ i j, (ent (recF n M k).1 i j).natAbs ≤ 2 * big := fun i j => by
      by_cases hij : i < n ∧ j < n
      · rw [ih2 i j hij.1 hij.2]; exact hfl i j
      · rw [ent_out ih1 hij]; simp
    have hP : ∀ i j, i < n → j < n → ent (prM M (recF n M k).1 n n) i j = sgn k * qSum (ent M) n k i j := fun i j hi hj => by
      rw [ent_prM _ _ hi hj, prE_eq (g := fun s => ent M i s * ent (recF n M k).1 s j) (fun s => rfl) (fun s => nat_mul_abs (hb i s) (hent s j)) (n - 1) (by omega), show n - 1 + 1 = n by omega, ← flB_prod (ent M) n k i j hj]
      exact sumI_congr _ (fun s hs => by rw [ih2 s j (List.mem_range.1 hs) hj])
    have hq := fun i => qSum_bound hb hn (show k ≤ 5 by omega) i i
    have hT : trF (prM M (recF n M k).1 n n) n = ((k + 1 : Nat) : Int) * coef (ent M) n k := by
      rw [trF_eq (g := fun i => sgn k * qSum (ent M) n k i i) big (fun s => by rw [sgn_abs]; exact hq s) (by omega) n (by omega) (fun s hs => (hP s s hs hs).symm), flB_trace]
    have hco := coef_bound hb hn (show k ≤ 5 by omega)
    have hC : wrap64 ((trF (prM M (recF n M k).1 n n) n).tdiv ((k + 1 : Nat) : Int)) = coef (ent M) n k := by
      rw [hT, Int.mul_tdiv_cancel_left _ (by omega), wrap_id (by omega)]
    obtain ⟨s1, s2⟩ := subF_eq (sq_prM M (recF n M k).1 n) (coef (ent M) n k) n (Nat.le_refl _)
    have e : recF n M (k + 1) = (subF (prM M (recF n M k).1 n n) (coef (ent M) n k) n, (recF n M k).2 ++ [coef (ent M) n k]) := by
      rw [recF, hC]
    rw [e]
    refine ⟨s1, fun i j hi hj => ?_, ?_⟩
    · show ent (subF _ _ _) i j = _
      rw [s2 i j, flB]
      by_cases hij : i = j
      · subst hij
        rw [if_pos ⟨rfl, hi⟩, hP i i hi hi]
        have := hq i
        have h3 := sgn_abs k (qSum (ent M) n k i i)
        rw [wrap_id (by omega)]
        simp [delta]
      · rw [if_neg (by omega), hP i j hi hj]
        simp [delta, hij]
    · show (recF n M k).2 ++ [_] = _
      rw [ih3, List.range_succ, List.map_append]
      rfl
end Go.Proofs.YtilacamhjibneaaDoor

/- What follows a matrix keeps the recurrence of its coefficients; two such sequences that agree long enough agree always. Plain facts. Their conditions are their premises. -/
namespace Go.Proofs.YtilacamhjibneaaDoor

theorem sumI_swap (f : Nat → Nat → Int) (m : List Nat) : ∀ (l : List Nat), sumI (fun j => sumI (fun s => f s j) m) l = sumI (fun s => sumI (fun j => f s j) l) m
  | [] => by
    have h : ∀ m : List Nat, sumI (fun _ => 0) m = 0 := by
      intro m
      induction m with
      | nil => rfl
      | cons c m ih => rw [sumI, ih]; rfl
    exact (h m).symm
  | c :: l => by
    rw [sumI, sumI_swap f m l, ← sumI_add]
    rfl
def bx (a : Nat → Nat → Int) (n : Nat) (X : Nat → Nat → Int) (k y i : Nat) : Int := sumI (fun j => flB a n k i j * X y j) (List.range n)
theorem bx_succ (a : Nat → Nat → Int) (n : Nat) (X : Nat → Nat → Int) (k y i : Nat) (hi : i < n) : bx a n X (k + 1) y i = sumI (fun s => a i s * bx a n X k y s) (List.range n) - coef a n k * X y i := by
  unfold bx
  have h1 : sumI (fun j => flB a n (k + 1) i j * X y j) (List.range n) = sumI (fun j => sumI (fun s => a i s * flB a n k s j * X y j) (List.range n)) (List.range n) - sumI (fun j => (coef a n k * X y j) * delta j i) (List.range n) := by
    rw [← sumI_sub]
    refine sumI_congr _ (fun j hj => ?_)
    have h2 : sumI (fun s => a i s * flB a n k s j * X y j) (List.range n) = X y j * (sgn k * qSum a n k i j) := by
      rw [← flB_prod a n k i j (List.mem_range.1 hj), ← sumI_mul]
      exact sumI_congr _ (fun s _ => by grind)
    have h3 : delta j i = delta i j := by
      unfold delta
      by_cases h : i = j
      · rw [if_pos h, if_pos h.symm]
      · rw [if_neg h, if_neg (fun e => h e.symm)]
    rw [h2, flB, h3]
    grind
  rw [h1, sumI_delta (fun j => coef a n k * X y j) i (List.range n) List.nodup_range, if_pos (List.mem_range.2 hi), sumI_swap]
  have h4 : sumI (fun s => sumI (fun j => a i s * flB a n k s j * X y j) (List.range n)) (List.range n) = sumI (fun s => a i s * sumI (fun j => flB a n k s j * X y j) (List.range n)) (List.range n) :=
    sumI_congr _ (fun s _ => by
      rw [← sumI_mul]
      exact sumI_congr _ (fun j _ => by grind))
  rw [h4]
def rest (a : Nat → Nat → Int) (n : Nat) (f : Nat → Int) (k y : Nat) : Int := f (y + k) - sumI (fun m => coef a n m * f (y + k - 1 - m)) (List.range k)
theorem sumI_rangeS (f : Nat → Int) (k : Nat) : sumI f (List.range (k + 1)) = sumI f (List.range k) + f k := by
  have h : ∀ (l m : List Nat), sumI f (l ++ m) = sumI f l + sumI f m := by
    intro l m
    induction l with
    | nil => simp [sumI]
    | cons c l ih => rw [List.cons_append, sumI, sumI, ih]; omega
  rw [List.range_succ, h]
  simp [sumI]
theorem bx_rest (a : Nat → Nat → Int) (n : Nat) (X : Nat → Nat → Int) (hX : ∀ y i, i < n → X (y + 1) i = sumI (fun s => a i s * X y s) (List.range n)) : ∀ (k y i : Nat), i < n → bx a n X k y i = rest a n (fun y => X y i) k y
  | 0, y, i, hi => by
    unfold bx rest
    have h : sumI (fun j => flB a n 0 i j * X y j) (List.range n) = sumI (fun j => X y j * delta j i) (List.range n) := sumI_congr _ (fun j _ => by
      show delta i j * X y j = _
      have h3 : delta j i = delta i j := by
        unfold delta
        by_cases h : i = j
        · rw [if_pos h, if_pos h.symm]
        · rw [if_neg h, if_neg (fun e => h e.symm)]
      rw [h3]
      grind)
    rw [h, sumI_delta (X y) i (List.range n) List.nodup_range, if_pos (List.mem_range.2 hi)]
    simp [sumI]
  | k + 1, y, i, hi => by
    rw [bx_succ a n X k y i hi]
    have h1 : sumI (fun s => a i s * bx a n X k y s) (List.range n) = sumI (fun s => a i s * X (y + k) s - sumI (fun m => coef a n m * (a i s * X (y + k - 1 - m) s)) (List.range k)) (List.range n) := sumI_congr _ (fun s hs => by
      rw [bx_rest a n X hX k y s (List.mem_range.1 hs)]
      unfold rest
      have h2 : sumI (fun m => coef a n m * (a i s * X (y + k - 1 - m) s)) (List.range k) = a i s * sumI (fun m => coef a n m * X (y + k - 1 - m) s) (List.range k) := by
        rw [← sumI_mul]
        exact sumI_congr _ (fun m _ => by grind)
      rw [h2]
      grind)
    rw [h1, sumI_sub, ← hX (y + k) i hi, sumI_swap]
    have h3 : sumI (fun m => sumI (fun s => coef a n m * (a i s * X (y + k - 1 - m) s)) (List.range n)) (List.range k) = sumI (fun m => coef a n m * X (y + (k + 1) - 1 - m) i) (List.range k) := sumI_congr _ (fun m hm => by
      rw [sumI_mul, ← hX _ i hi]
      have : m < k := List.mem_range.1 hm
      rw [show y + k - 1 - m + 1 = y + (k + 1) - 1 - m by omega])
    rw [h3]
    unfold rest
    rw [sumI_rangeS, show y + (k + 1) - 1 - k = y by omega, show y + (k + 1) = y + k + 1 by omega]
    dsimp only
    omega
/-- The recurrence of the parts. -/
theorem parts_rec (a : Nat → Nat → Int) (n : Nat) (hn : 0 < n) (X : Nat → Nat → Int) (hX : ∀ y i, i < n → X (y + 1) i = sumI (fun s => a i s * X y s) (List.range n)) (y i : Nat) (hi : i < n) : rest a n (fun y => X y i) n y = 0 := by
  rw [← bx_rest a n X hX n y i hi]
  unfold bx
  rw [sumI_congr (List.range n) (g := fun j => 0 * X y j) (fun j hj => by rw [flB_done a n i j hn hi (List.mem_range.1 hj)]), sumI_mul, Int.zero_mul]
/-- The recurrence of the sums. -/
theorem sum_rec (a : Nat → Nat → Int) (n : Nat) (hn : 0 < n) (X : Nat → Nat → Int) (hX : ∀ y i, i < n → X (y + 1) i = sumI (fun s => a i s * X y s) (List.range n)) (y : Nat) : rest a n (fun y => sumI (X y) (List.range n)) n y = 0 := by
  have h : rest a n (fun y => sumI (X y) (List.range n)) n y = sumI (fun i => rest a n (fun y => X y i) n y) (List.range n) := by
    unfold rest
    rw [sumI_sub, sumI_swap]
    congr 1
    exact sumI_congr _ (fun m _ => (sumI_mul _ _ _).symm)
  rw [h, sumI_congr (List.range n) (g := fun j => 0 * (0 : Int)) (fun j hj => by rw [parts_rec a n hn X hX y j (List.mem_range.1 hj)]; rfl), sumI_mul, Int.zero_mul]

/-- A recurrence by numbers c: what is left of f. -/
def rst (c : Nat → Int) (f : Nat → Int) (k y : Nat) : Int := f (y + k) - sumI (fun m => c m * f (y + k - 1 - m)) (List.range k)
theorem rst_sub (c : Nat → Int) (f g : Nat → Int) (k y : Nat) : rst c (fun y => f y - g y) k y = rst c f k y - rst c g k y := by
  unfold rst
  have h : sumI (fun m => c m * (f (y + k - 1 - m) - g (y + k - 1 - m))) (List.range k) = sumI (fun m => c m * f (y + k - 1 - m)) (List.range k) - sumI (fun m => c m * g (y + k - 1 - m)) (List.range k) := by
    rw [← sumI_sub]
    exact sumI_congr _ (fun m _ => by grind)
  rw [h]
  dsimp only
  omega
/-- Two recurrences, one behind the other, may be exchanged. -/
theorem rst_comm (c d : Nat → Int) (f : Nat → Int) (k l y : Nat) : rst c (fun y => rst d f l y) k y = rst d (fun y => rst c f k y) l y := by
  have e : ∀ (c d : Nat → Int) (k l : Nat), rst c (fun y => rst d f l y) k y = f (y + k + l) - sumI (fun m => d m * f (y + k + l - 1 - m)) (List.range l) - sumI (fun m => c m * f (y + k - 1 - m + l)) (List.range k) + sumI (fun m => sumI (fun p => c m * d p * f (y + k + l - 2 - m - p)) (List.range l)) (List.range k) := by
    intro c d k l
    have h : sumI (fun m => c m * rst d f l (y + k - 1 - m)) (List.range k) = sumI (fun m => c m * f (y + k - 1 - m + l)) (List.range k) - sumI (fun m => sumI (fun p => c m * d p * f (y + k + l - 2 - m - p)) (List.range l)) (List.range k) := by
      rw [← sumI_sub]
      refine sumI_congr _ (fun m hm => ?_)
      have hm := List.mem_range.1 hm
      unfold rst
      have h2 : sumI (fun p => c m * d p * f (y + k + l - 2 - m - p)) (List.range l) = c m * sumI (fun p => d p * f (y + k - 1 - m + l - 1 - p)) (List.range l) := by
        rw [← sumI_mul]
        refine sumI_congr _ (fun p hp => ?_)
        have hp := List.mem_range.1 hp
        rw [show y + k - 1 - m + l - 1 - p = y + k + l - 2 - m - p by omega]
        grind
      rw [h2]
      grind
    show rst d f l (y + k) - sumI (fun m => c m * rst d f l (y + k - 1 - m)) (List.range k) = _
    rw [h]
    unfold rst
    omega
  rw [e c d k l, e d c l k]
  have h1 : sumI (fun m => d m * f (y + k + l - 1 - m)) (List.range l) = sumI (fun m => d m * f (y + l - 1 - m + k)) (List.range l) := sumI_congr _ (fun m hm => by
    have := List.mem_range.1 hm
    rw [show y + k + l - 1 - m = y + l - 1 - m + k by omega])
  have h2 : sumI (fun m => c m * f (y + k - 1 - m + l)) (List.range k) = sumI (fun m => c m * f (y + l + k - 1 - m)) (List.range k) := sumI_congr _ (fun m hm => by
    have := List.mem_range.1 hm
    rw [show y + l + k - 1 - m = y + k - 1 - m + l by omega])
  have h3 : sumI (fun m => sumI (fun p => c m * d p * f (y + k + l - 2 - m - p)) (List.range l)) (List.range k) = sumI (fun m => sumI (fun p => d m * c p * f (y + l + k - 2 - m - p)) (List.range k)) (List.range l) := by
    rw [sumI_swap]
    refine sumI_congr _ (fun m _ => sumI_congr _ (fun p _ => ?_))
    rw [show y + l + k - 2 - m - p = y + k + l - 2 - p - m by omega]
    grind
  rw [h1, h2, h3, show y + l + k = y + k + l by omega]
  omega
/-- What is nothing at its beginning, and keeps a recurrence, is nothing. -/
theorem rst_none (c : Nat → Int) (f : Nat → Int) (k : Nat) (hr : ∀ y, rst c f k y = 0) (h0 : ∀ y, y < k → f y = 0) : ∀ y, f y = 0 := by
  intro y
  induction y using Nat.strongRecOn with
  | _ y ih =>
    by_cases hy : y < k
    · exact h0 y hy
    · have h := hr (y - k)
      unfold rst at h
      rw [show y - k + k = y by omega, sumI_congr (List.range k) (g := fun m => 0 * (0 : Int)) (fun m hm => by
        have hm := List.mem_range.1 hm
        rw [ih (y - 1 - m) (by omega)]
        simp), sumI_mul] at h
      omega
/-- Two sequences that agree as long as both recurrences are agree always. -/
theorem rst_agree (c d : Nat → Int) (f g : Nat → Int) (k l : Nat) (hf : ∀ y, rst c f k y = 0) (hg : ∀ y, rst d g l y = 0) (h0 : ∀ y, y < k + l → f y = g y) : ∀ y, f y = g y := by
  have h1 : ∀ y, rst c (fun y => f y - g y) k y = 0 := by
    refine rst_none d _ l (fun y => ?_) (fun y hy => ?_)
    · rw [rst_comm d c (fun y => f y - g y) l k y]
      have h2 : ∀ y, rst d (fun y => f y - g y) l y = rst d f l y := fun y => by rw [rst_sub, hg]; omega
      have h3 : (fun y => rst d (fun y => f y - g y) l y) = fun y => rst d f l y := funext h2
      rw [h3, rst_comm c d f k l y]
      have h4 : (fun y => rst c f k y) = fun _ => 0 := funext hf
      rw [h4]
      unfold rst
      rw [sumI_congr (List.range l) (g := fun m => 0 * (0 : Int)) (fun m hm => by simp), sumI_mul]
      dsimp only
      omega
    · unfold rst
      dsimp only
      rw [h0 (y + k) (by omega), sumI_congr (List.range k) (g := fun m => 0 * (0 : Int)) (fun m hm => by
        have hm := List.mem_range.1 hm
        rw [h0 (y + k - 1 - m) (by omega)]
        simp), sumI_mul]
      omega
  have h2 := rst_none c (fun y => f y - g y) k h1 (fun y hy => by rw [h0 y (by omega)]; omega)
  intro y
  have := h2 y
  omega
end Go.Proofs.YtilacamhjibneaaDoor

/- The reference's determinant, walked. Its conditions are its premises. -/
namespace Go.Proofs.YtilacamhjibneaaDoor
open Go.RowKit

/-- A slice of small numbers. -/
def SlN (w : World) (v : Value) (X : List Nat) : Prop := ∃ ao g off c, v = .slice ao X.length c ∧ X.length ≤ c ∧ (X = [] ∨ ao = some ⟨g, off, none⟩) ∧ NatsAt w g off X
theorem SlN.chg {w w' : World} {v : Value} {X : List Nat} (h : SlN w v X) (hc : Chg (fun _ => False) w w') : SlN w' v X := by
  obtain ⟨ao, g, off, c, h1, h2, h3, h4⟩ := h
  exact ⟨ao, g, off, c, h1, h2, h3, h4.chg hc (fun x => x)⟩

theorem nats_take {w : World} {b off : Nat} {l : List Nat} (h : NatsAt w b off l) (i : Nat) : NatsAt w b off (l.take i) := fun k hk => by
  rw [List.getElem_take]
  exact h k (by rw [List.length_take] at hk; omega)
theorem nats_drop {w : World} {b off : Nat} {l : List Nat} (h : NatsAt w b off l) (i : Nat) : NatsAt w b (off + i) (l.drop i) := fun k hk => by
  rw [List.getElem_drop, Nat.add_assoc]
  exact h (i + k) (by rw [List.length_drop] at hk; omega)
/-- A slice of numbers behind a slice of the call's own. -/
theorem wpList_app {w : World} {ops : Array Oper} {rest : List Oper} {o : Oper} {a : Act} {Q : Exit → Act → World → Prop} (hgd : o.guard = none) (sl x : Operand)
    (ho : o.op = .call { callee := .builtin .append, args := #[sl, x], argTypes := #[29, 29] }) (base : Nat) (v : Value) (l t : List Nat) (hs : a.eval sl = v) (hown : w.ownsRow base 3 1 v l.length (nv l))
    (bo : Option Addr) (c : Nat) (hx : a.eval x = .slice bo t.length c) (hsrc : t = [] ∨ ∃ g off, bo = some ⟨g, off, none⟩ ∧ NatsAt w g off t) (hl : l.length + t.length ≤ 100000) (hb : base ≤ w.heap.size)
    (hK : ∀ v' w', w'.ownsRow base 3 1 v' (l ++ t).length (nv (l ++ t)) → Chg (fun k => base ≤ k) w w' → wpList Tryd.prog ops Q rest (a.put o.dst v') w') : wpList Tryd.prog ops Q (o :: rest) a w := by
  obtain ⟨i0, h0, h1, h2, h3⟩ := info_parts info3
  refine wpList_append_all hgd sl x 29 ho base 3 i0 _ 1 8 Tryd.underlying29 h0 h1 h2 h3 rfl (by decide) v l.length (nv l) hs hown bo t.length c (nv t) hx (by simp [nv]) ?_ ?_ (by unfold maxLen; omega) (by omega) hb ?_
  · rcases hsrc with rfl | ⟨g, off, rfl, hn⟩
    · exact .inl rfl
    · refine .inr ⟨_, rfl, fun j u hj => ?_⟩
      rw [add_plain]
      unfold nv at hj
      rw [List.getElem?_map] at hj
      by_cases hjt : j < t.length
      · rw [List.getElem?_eq_getElem hjt] at hj
        cases hj
        exact hn j hjt
      · rw [List.getElem?_eq_none (by omega)] at hj
        cases hj
  · intro u hu
    unfold nv at hu
    obtain ⟨x, _, rfl⟩ := List.mem_map.1 hu
    rfl
  · intro v' w' r1 r2 r3
    refine hK v' w' (by rw [List.length_append, nv_app]; exact r1) ((Chg.of_grownRow r2).mono (fun k hk => ?_))
    rcases hown.2 with ⟨rfl, _⟩ | ⟨g, cc, cur, rfl, hg, _⟩
    · simp [Value.ownBlock] at hk
    · simp [Value.ownBlock] at hk
      omega

theorem sln_of_owns {w : World} {base : Nat} {v : Value} {X : List Nat} (h : w.ownsRow base 3 1 v X.length (nv X)) : SlN w v X := by
  have h' : w.ownsRow base 3 1 v X.length ((X.map fun (x : Nat) => (x : Int)).map (Value.int .i64)) := by
    rw [List.map_map]
    exact h
  by_cases hX : X = []
  · subst hX
    obtain ⟨ao, c, rfl, _⟩ := owns_form h
    exact ⟨ao, base, 0, c, rfl, Nat.zero_le _, .inl rfl, fun k hk => by simp at hk⟩
  · obtain ⟨g, c, rfl, h1, h2, h3, h4⟩ := owns_ints h' (by simpa using hX)
    rw [List.length_map] at h4 ⊢
    refine ⟨_, g, 0, c, rfl, h4, .inr rfl, fun k hk => ?_⟩
    have := h3 k (by simpa using hk)
    simpa using this
theorem chg_new {w w1 w2 : World} (h1 : Chg (fun k => w.heap.size ≤ k) w w1) (h2 : Chg (fun k => w.heap.size ≤ k) w1 w2) : Chg (fun _ => False) w w2 :=
  (h1.trans h2 (fun _ h => .inr h)).trans (Chg.refl (fun _ => False) w2) (fun _ h => h.elim) |> fun h => ⟨h.os, h.tape, h.output, h.size, fun b hb _ => h.block b hb (by omega)⟩
theorem i64_small {x : Int} (h : x.natAbs ≤ 9000000000000000000) : IntKind.i64.wrap x = x := IntWalk.i64_in _ (by omega)
/-- What the region of the product loads. -/
structure K4 (wc w' : World) (g off r mb rg n rc g2 o2 x : Nat) (e : Int) : Prop where
  a : w'.cell? ⟨g, off, none⟩ = some (.int .i64 (r : Nat))
  b : w'.cell? ⟨mb, r, none⟩ = some (.slice (some ⟨rg, 0, none⟩) n rc)
  d : w'.cell? ⟨g2, o2, none⟩ = some (.int .i64 (x : Nat))
  f : w'.cell? ⟨rg, x, none⟩ = some (.int .i64 e)
  c : Chg (fun _ => False) wc w'
theorem K4.chg {wc w' w2 : World} {g off r mb rg n rc g2 o2 x : Nat} {e : Int} (h : K4 wc w' g off r mb rg n rc g2 o2 x e) (hc : Chg (fun _ => False) w' w2) : K4 wc w2 g off r mb rg n rc g2 o2 x e :=
  ⟨hc.cell_some h.a (fun x => x), hc.cell_some h.b (fun x => x), hc.cell_some h.d (fun x => x), hc.cell_some h.f (fun x => x), h.c.trans hc (fun _ x => x.elim)⟩
/-- The sum as far as the columns go. -/
theorem sumI_range0 (f : Nat → Int) : ∀ k, sumI f (List.range (k + 1)) = f 0 + sumI (fun j => f (j + 1)) (List.range k)
  | 0 => by simp [sumI, List.range_succ]
  | k + 1 => by
    rw [sumI_range, sumI_range0 f k, sumI_range]
    omega
theorem ex_sumI (g : Nat → Int) : ∀ (cs : List Nat) (F : List Nat → Int), ex g F cs = sumI (fun j => sgn j * g (at0 cs j) * F (cs.eraseIdx j)) (List.range cs.length)
  | [], _ => rfl
  | c :: cs, F => by
    rw [ex, ex_sumI g cs, List.length_cons, sumI_range0]
    have h : sumI (fun j => sgn (j + 1) * g (at0 (c :: cs) (j + 1)) * F ((c :: cs).eraseIdx (j + 1))) (List.range cs.length) = - sumI (fun j => sgn j * g (at0 cs j) * F (c :: cs.eraseIdx j)) (List.range cs.length) := by
      have h2 : - sumI (fun j => sgn j * g (at0 cs j) * F (c :: cs.eraseIdx j)) (List.range cs.length) = sumI (fun j => (-1) * (sgn j * g (at0 cs j) * F (c :: cs.eraseIdx j))) (List.range cs.length) := by
        rw [sumI_mul]; omega
      rw [h2]
      refine sumI_congr _ (fun j _ => ?_)
      rw [sgn_succ]
      show - sgn j * g (at0 cs j) * F (c :: cs.eraseIdx j) = _
      grind
    rw [h]
    have e : sgn 0 * g (at0 (c :: cs) 0) * F ((c :: cs).eraseIdx 0) = g c * F cs := by
      show 1 * g c * F cs = _
      rw [Int.one_mul]
    rw [e]
    omega

set_option maxRecDepth 100000 in
set_option maxHeartbeats 1000000 in
theorem rdet_any (A : List (List Int)) (n : Nat) (hn : n ≤ 6) (hb : ∀ i j, (ent A i j).natAbs ≤ 8) (mb mc : Nat) :
    ∀ (rows cols : List Nat), cols.length = rows.length → rows.length ≤ 6 → (∀ r ∈ rows, r < n) → (∀ c ∈ cols, c < n) → ∀ (rv cv : Value) (w : World), MatI w mb n A → SlN w rv rows → SlN w cv cols →
    Calls Tryd.prog 56 #[.slice (some ⟨mb, 0, none⟩) n mc, rv, cv] w fun e w' => e = .returned (.int .i64 (det (ent A) rows cols)) ∧ Chg (fun _ => False) w w' := by
  intro rows
  induction rows with
  | nil =>
    intro cols hcl _ _ _ rv cv w hm hr hc
    obtain ⟨ao, g, off, c, rfl, h2, h3, h4⟩ := hr
    clear hm hc h3 h4
    go_enter Tryd.func56, Tryd.ntmps56
    go_wp2_with fail
    go_ret
    exact ⟨rfl, Chg.refl _ _⟩
  | cons r rows ih =>
    intro cols hcl hrl hr hc rv cv w hm hrv hcv
    obtain ⟨ao, g, off, c, rfl, h2, h3, h4⟩ := hrv
    obtain ⟨bo, g2, off2, c2, rfl, k2, k3, k4⟩ := hcv
    obtain rfl : ao = some ⟨g, off, none⟩ := h3.resolve_left (by simp)
    have hcne : cols ≠ [] := by intro e; subst e; simp at hcl
    obtain rfl : bo = some ⟨g2, off2, none⟩ := k3.resolve_left hcne
    clear h3 k3
    have HIH := Lib.hid ih
    have HM := Lib.hid hm
    have HR := Lib.hid h4
    have HCS := Lib.hid k4
    have HRL := Lib.hid hr
    have HCL := Lib.hid hc
    have HE := Lib.hid hcl
    simp only [List.length_cons] at hcl hrl h2 ⊢
    obtain ⟨m, hm0⟩ : ∃ m, rows.length = m := ⟨_, rfl⟩
    rw [hm0] at hcl hrl h2 ⊢
    rw [hcl] at k2 ⊢
    clear ih hm h4 k4 hr hc
    go_enter Tryd.func56, Tryd.ntmps56
    go_wp2_with fail
    obtain ⟨T, hT⟩ : ∃ T : Nat → Int, (fun j => sgn j * ent A r (at0 cols j) * det (ent A) rows (cols.eraseIdx j)) = T := ⟨_, rfl⟩
    have HT := Lib.hid hT
    have HTB := Lib.hid (show ∀ j, (T j).natAbs ≤ 8 * 56 ^ 5 from fun j => by
      rw [← hT]
      show (sgn j * ent A r (at0 cols j) * det (ent A) rows (cols.eraseIdx j)).natAbs ≤ _
      rw [Int.mul_assoc, sgn_abs]
      refine nat_mul_abs (hb _ _) (Nat.le_trans (det_bound hb rows _ ?_) (Nat.pow_le_pow_right (by omega) (by omega)))
      have := (List.eraseIdx_sublist cols j).length_le
      omega)
    have HD := Lib.hid (show det (ent A) (r :: rows) cols = sumI T (List.range (m + 1)) by rw [det, ex_sumI, hcl, ← hT])
    clear hT
    go_loopg [7, 8, 9] (m + 1) (fun gm sv gv iv wr => ∃ i : Nat, i ≤ m + 1 ∧ gm = m + 1 - i ∧ sv = .int .i64 (sumI T (List.range i)) ∧ gv = .int .i64 (sgn i) ∧ iv = .int .i64 (i : Int) ∧ Chg (fun _ => False) w wr)
    case atStart => exact ⟨0, by omega, by omega, rfl, rfl, rfl, Chg.refl _ _⟩
    case round =>
      obtain ⟨i, hi, rfl, rfl, rfl, rfl, hch⟩ := hrel
      have HCH := Lib.hid hch
      clear hch
      by_cases him : i < m + 1
      · have d0 : decide ((i : Int) < (m : Int) + 1) = true := by simp; omega
        have hic2 : i ≤ c2 := by omega
        have HSRC1 : Hid (cols.take i = [] ∨ ∃ x y, some (⟨g2, off2, none⟩ : Addr) = some ⟨x, y, none⟩ ∧ NatsAt wr x y (cols.take i)) := Lib.hid (.inr ⟨_, _, rfl, nats_take (HCS.out.chg HCH.out (fun x => x)) i⟩)
        have hlt1 : (cols.take i).length = i := by rw [List.length_take]; omega
        have HLT1 := Lib.hid hlt1
        clear hlt1
        have HSRC2 : ∀ w1, Chg (fun k => wr.heap.size ≤ k) wr w1 → Hid (∃ x y, some (⟨g2, off2 + (i + 1), none⟩ : Addr) = some ⟨x, y, none⟩ ∧ NatsAt w1 x y (cols.drop (i + 1))) := fun w1 hc => Lib.hid ⟨_, _, rfl, nats_drop (HCS.out.chg (HCH.out.trans hc (fun b hb => .inr (Nat.le_trans HCH.out.size hb))) (fun x => x)) (i + 1)⟩
        have hlt2 : (cols.drop (i + 1)).length = m + 1 - (i + 1) := by rw [List.length_drop]; omega
        have HLT2 := Lib.hid hlt2
        clear hlt2
        have HER := Lib.hid (List.eraseIdx_eq_take_drop_succ cols i)
        go_upto_region 9 with (at_builtin; refine wpList_app rfl (.tmp 20) (.tmp 23) rfl wr.heap.size (.slice none 0 0) [] (cols.take i) (by simp [Act.eval]) (World.ownsRow_nil wr _ 3 1) (some ⟨g2, off2, none⟩) c2 (by rw [HLT1.out]; simp [Act.eval]) HSRC1.out (by rw [HLT1.out]; simp; omega) (Nat.le_refl _) ?_; intro v1 w1 hown1 hc1)
        go_cut [10] from 25 to 30 (fun rv wx => SlN wx rv (cols.eraseIdx i) ∧ Chg (fun _ => False) wr wx)
        case first =>
          by_cases hcc : i + 1 = c2
          · obtain rfl : i = m := by omega
            subst hcc
            go_wp2_with (at_builtin; refine wpList_app rfl (.tmp 25) (.tmp 29) rfl wr.heap.size v1 (cols.take i) [] (by simp [Act.eval]) hown1 (some ⟨g2, off2, none⟩) 0 (by simp [Act.eval]) (.inl rfl) (by rw [HLT1.out]; simp; omega) hc1.size ?_; intro v2 w2 hown2 hc2)
            go_meet
            case rel =>
              have e : cols.eraseIdx i = cols.take i ++ [] := by rw [HER.out, List.drop_eq_nil_of_le (by have := HE.out; simp at this; omega)]
              rw [e]
              exact ⟨sln_of_owns hown2, chg_new hc1 hc2⟩
          · go_wp2_with (at_builtin; refine wpList_app rfl (.tmp 25) (.tmp 29) rfl wr.heap.size v1 (cols.take i) (cols.drop (i + 1)) (by simp [Act.eval]) hown1 (some ⟨g2, off2 + (i + 1), none⟩) (c2 - (i + 1)) (by rw [HLT2.out]; simp [Act.eval]) (.inr (HSRC2 w1 hc1).out) (by rw [HLT1.out, HLT2.out]; omega) hc1.size ?_; intro v2 w2 hown2 hc2)
            go_meet
            case rel => 
              rw [HER.out]
              exact ⟨sln_of_owns hown2, chg_new hc1 hc2⟩
        case rest =>
          obtain ⟨hsl, hcx⟩ := hcut
          have hC := HCH.out.trans hcx (fun _ x => x.elim)
          have HCX := Lib.hid hC
          have hx : at0 cols i < n := HCL.out _ (at0_mem (by have := HE.out; simp at this; omega))
          have hrn : r < n := HRL.out r (by simp)
          obtain ⟨rg, rc, q1, q2⟩ := (HM.out.chg hC) r hrn
          have q3 := q2 _ hx
          have q4 := nats_at (HR.out.chg hC (fun x => x)) (i := 0) (by simp)
          have q5 := nats_at (HCS.out.chg hC (fun x => x)) (i := i) (by have := HE.out; simp at this; omega)
          have hTi : T i = sgn i * ent A r (at0 cols i) * det (ent A) rows (cols.eraseIdx i) := by rw [← HT.out]
          have HCALL := Lib.hid (fun (rv' : Value) (h : SlN wc rv' rows) (w' : World) (hc' : Chg (fun _ => False) wc w') => HIH.out (cols.eraseIdx i) (by rw [List.length_eraseIdx]; have := HE.out; simp at this; split <;> omega) (by omega) (fun y hy => HRL.out y (by simp [hy])) (fun y hy => HCL.out y (List.mem_of_mem_eraseIdx hy)) rv' u10 w' ((HM.out.chg hC).chg hc') (h.chg hc') (hsl.chg hc'))
          have HTAIL := Lib.hid (nats_drop (HR.out.chg hC (fun x => x)) 1)
          rw [show at0 (r :: rows) 0 = r from rfl, Nat.add_zero] at q4
          have HDB := Lib.hid (det_bound hb rows (cols.eraseIdx i) (by rw [List.length_eraseIdx]; have := HE.out; simp at this; split <;> omega))
          have HEB := Lib.hid (hb r (at0 cols i))
          have HPB := Lib.hid (sumI_bound T _ HTB.out i)
          have HPN := Lib.hid (sumI_range T i)
          have HSG := Lib.hid (sgn_cases i)
          obtain ⟨d, hd⟩ : ∃ d, det (ent A) rows (cols.eraseIdx i) = d := ⟨_, rfl⟩
          obtain ⟨x, hxx⟩ : ∃ x, at0 cols i = x := ⟨_, rfl⟩
          rw [hxx] at q3 q5 hx hTi HEB
          rw [hd] at hTi HDB
          have hd2 := hd
          rw [hd] at HCALL
          obtain ⟨e, he⟩ : ∃ e, ent A r x = e := ⟨_, rfl⟩
          rw [he] at q3 hTi HEB
          obtain ⟨sg, hsg⟩ : ∃ sg, sgn i = sg := ⟨_, rfl⟩
          rw [hsg] at hTi HSG ⊢
          obtain ⟨ps, hps⟩ : ∃ ps, sumI T (List.range i) = ps := ⟨_, rfl⟩
          rw [hps] at HPB HPN ⊢
          have HTI := Lib.hid hTi
          have HSGN := Lib.hid hsg
          clear hd hd2 hxx he hsg hps hTi q2 hcx hsl hC
          have b1 : (0 : Int) ≤ (i : Int) := by omega
          have b2 : (i : Int) ≤ (m : Int) := by omega
          have b3 : (0 : Int) ≤ (r : Int) := by omega
          have b4 : (r : Int) < (n : Int) := by omega
          have b5 : (0 : Int) ≤ (x : Int) := by omega
          have b6 : (x : Int) < (n : Int) := by omega
          have b7 : (i : Int) < (m : Int) + 1 := by omega
          have b9 : (1 : Int) ≤ (c : Int) := by omega
          have b10 : 1 ≤ c := by omega
          have b12 : (1 : Int) ≤ (m : Int) + 1 := by omega
          go_upto_region 10 with (fail)
          go_cut [7] from 31 to 52 (fun sv wx => (∃ z, sv = .int .i64 z ∧ z = IntKind.i64.wrap (ps + IntKind.i64.wrap (IntKind.i64.wrap (sg * e) * d))) ∧ Chg (fun _ => False) wc wx)
          case first =>
            have hk0 : K4 wc wc.drew g off r mb rg n rc g2 (off2 + i) x e := ⟨q4, q1, q5, q3, (Chg.refl _ wc).drew⟩
            by_cases hc1 : c = 1
            · obtain rfl : m = 0 := by omega
              subst hc1
              have b13 : (i : Int) < 1 := by omega
              have b14 : i < 1 := by omega
              have hrow : SlN wc (.slice (some ⟨g, off, none⟩) 0 0) rows := ⟨_, g, off, 0, by rw [List.eq_nil_of_length_eq_zero hm0]; rfl, by omega, .inl (List.eq_nil_of_length_eq_zero hm0), fun k hk => by omega⟩
              go_region_held3 (fun w' => w'.cell? ⟨g, off, none⟩ = some (.int .i64 (r : Nat)) ∧ w'.cell? ⟨mb, r, none⟩ = some (.slice (some ⟨rg, 0, none⟩) n rc) ∧ w'.cell? ⟨g2, off2 + i, none⟩ = some (.int .i64 (x : Nat)) ∧ w'.cell? ⟨rg, x, none⟩ = some (.int .i64 e) ∧ Chg (fun _ => False) wc w')
                (first | exact ⟨hk0.a, hk0.b, hk0.d, hk0.f, hk0.c⟩ | exact ⟨(hk0.chg hc2).a, (hk0.chg hc2).b, (hk0.chg hc2).d, (hk0.chg hc2).f, (hk0.chg hc2).c⟩)
                (first | (go_at_call 56; refine (HCALL.out _ hrow _ hk0.c).mono ?_; rintro e2 w2 ⟨rfl, hc2⟩))
              all_goals
                go_wp2_with fail
                go_meet
                case rel => exact ⟨⟨_, rfl, rfl⟩, (Chg.refl _ wc).drew.trans hc2 (fun _ x => x.elim)⟩
            · have b13 : ¬ 1 = c := fun x => hc1 x.symm
              have hrow : SlN wc (.slice (some ⟨g, off + 1, none⟩) m (c - 1)) rows := ⟨_, g, off + 1, c - 1, by rw [hm0], by omega, .inr rfl, HTAIL.out⟩
              go_region_held3 (fun w' => w'.cell? ⟨g, off, none⟩ = some (.int .i64 (r : Nat)) ∧ w'.cell? ⟨mb, r, none⟩ = some (.slice (some ⟨rg, 0, none⟩) n rc) ∧ w'.cell? ⟨g2, off2 + i, none⟩ = some (.int .i64 (x : Nat)) ∧ w'.cell? ⟨rg, x, none⟩ = some (.int .i64 e) ∧ Chg (fun _ => False) wc w')
                (first | exact ⟨hk0.a, hk0.b, hk0.d, hk0.f, hk0.c⟩ | exact ⟨(hk0.chg hc2).a, (hk0.chg hc2).b, (hk0.chg hc2).d, (hk0.chg hc2).f, (hk0.chg hc2).c⟩)
                (first | (go_at_call 56; refine (HCALL.out _ hrow _ hk0.c).mono ?_; rintro e2 w2 ⟨rfl, hc2⟩))
              all_goals
                go_wp2_with fail
                go_meet
                case rel => exact ⟨⟨_, rfl, rfl⟩, (Chg.refl _ wc).drew.trans hc2 (fun _ x => x.elim)⟩
          case rest =>
            obtain ⟨⟨z, rfl, hz⟩, hcy⟩ := hcut
            have hz2 : z = sumI T (List.range (i + 1)) := by
              have hT := HTB.out i
              have h1 := HTI.out
              have h2 := HPB.out
              have h3 := HEB.out
              have h56 : (56 : Nat) ^ 5 = 550731776 := by decide
              rw [h56] at hT h2
              rw [HPN.out, hz]
              have k1 : (sg * e).natAbs ≤ 8 := by rcases HSG.out with h | h <;> rw [h] <;> omega
              rw [i64_small (x := sg * e) (by omega), ← h1, i64_small (x := T i) (by omega), i64_small (by omega)]
            subst hz2
            have HCY := Lib.hid (HCX.out.trans hcy (fun _ x => x.elim))
            have hng : IntKind.i64.wrap (-sg) = sgn (i + 1) := by
              rw [sgn_succ, HSGN.out]
              exact i64_small (by rcases HSG.out with h | h <;> rw [h] <;> decide)
            clear hz hcy q1 q3 q4 q5 hx hrn HCALL HTAIL HDB HEB HPB HPN HTI
            go_wp2_with fail
            go_roundg (m + 1 - (i + 1))
            case measure => omega
            case rel => exact ⟨i + 1, by omega, rfl, by go_num, rfl, by go_num, HCY.out⟩
      · obtain rfl : i = m + 1 := by omega
        go_wp2_with fail
        go_ret
        exact ⟨by rw [HD.out]; rfl, HCH.out⟩
end Go.Proofs.YtilacamhjibneaaDoor

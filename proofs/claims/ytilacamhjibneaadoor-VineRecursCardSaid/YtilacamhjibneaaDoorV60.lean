/- Determinants by the first row; the traces of Faddeev and LeVerrier are sums of minors. Plain facts. Their conditions are their premises. -/
import Derived.Test.YtilacamhjibneaaDoorBase
set_option linter.unusedVariables false
namespace Go.Proofs.YtilacamhjibneaaDoor

/-- The sum of entries of a row, with alternating signs, times what is left of the columns. -/
def ex (g : Nat → Int) (F : List Nat → Int) : List Nat → Int
  | [] => 0
  | c :: cs => g c * F cs - ex g (fun l => F (c :: l)) cs
def det (a : Nat → Nat → Int) : List Nat → List Nat → Int
  | [], _ => 1
  | r :: rows, cols => ex (a r) (det a rows) cols

theorem ex_congr {g : Nat → Int} : ∀ (cs : List Nat) {F G : List Nat → Int}, (∀ l, F l = G l) → ex g F cs = ex g G cs
  | [], _, _, _ => rfl
  | c :: cs, F, G, h => by
    rw [ex, ex, h, ex_congr cs (F := fun l => F (c :: l)) (G := fun l => G (c :: l)) (fun l => h _)]
theorem ex_neg {g : Nat → Int} : ∀ (cs : List Nat) {F : List Nat → Int}, ex g (fun l => - F l) cs = - ex g F cs
  | [], _ => rfl
  | c :: cs, F => by
    have h := ex_neg (g := g) cs (F := fun l => F (c :: l))
    rw [ex, ex, h]
    grind
theorem ex_lin {g : Nat → Int} (x y : Int) : ∀ (cs : List Nat) {F G : List Nat → Int}, ex g (fun l => x * F l - y * G l) cs = x * ex g F cs - y * ex g G cs
  | [], _, _ => by simp [ex]
  | c :: cs, F, G => by
    have h := ex_lin (g := g) x y cs (F := fun l => F (c :: l)) (G := fun l => G (c :: l))
    rw [ex, ex, ex, h]
    grind
theorem ex_sub {g : Nat → Int} (cs : List Nat) (F G : List Nat → Int) : ex g (fun l => F l - G l) cs = ex g F cs - ex g G cs := by
  have h := ex_lin (g := g) 1 1 cs (F := F) (G := G)
  simpa using h
theorem ex_mul {g : Nat → Int} (x : Int) (cs : List Nat) (F : List Nat → Int) : ex g (fun l => x * F l) cs = x * ex g F cs := by
  have h := ex_lin (g := g) x 0 cs (F := F) (G := F)
  simpa using h
/-- Two rows exchanged. -/
theorem ex_swap (g h : Nat → Int) : ∀ (cs : List Nat) (F : List Nat → Int), ex g (fun l => ex h F l) cs = - ex h (fun l => ex g F l) cs
  | [], _ => rfl
  | c :: cs, F => by
    rw [ex, ex]
    have h1 : ex g (fun l => ex h F (c :: l)) cs = h c * ex g F cs - ex g (fun l => ex h (fun m => F (c :: m)) l) cs := by
      rw [show (fun l => ex h F (c :: l)) = (fun l => h c * F l - ex h (fun m => F (c :: m)) l) from rfl, ex_sub, ex_mul]
    have h2 : ex h (fun l => ex g F (c :: l)) cs = g c * ex h F cs - ex h (fun l => ex g (fun m => F (c :: m)) l) cs := by
      rw [show (fun l => ex g F (c :: l)) = (fun l => g c * F l - ex g (fun m => F (c :: m)) l) from rfl, ex_sub, ex_mul]
    have h3 := ex_swap g h cs (fun m => F (c :: m))
    rw [h1, h2, h3]
    grind
/-- Two columns exchanged. -/
theorem ex_cols (g : Nat → Int) (c d : Nat) (post : List Nat) : ∀ (pre : List Nat) (F : List Nat → Int), (∀ (p q : List Nat), p.length + q.length + 1 = pre.length + post.length → F (p ++ c :: d :: q) = - F (p ++ d :: c :: q)) → ex g F (pre ++ c :: d :: post) = - ex g F (pre ++ d :: c :: post)
  | [], F, hF => by
    have h : ex g (fun l => F (c :: d :: l)) post = - ex g (fun l => F (d :: c :: l)) post := by
      rw [← ex_neg]
      -- only the lists that are left matter
      have key : ∀ (cs : List Nat) (A B : List Nat → Int), (∀ l, l.length + 1 = cs.length → A l = B l) → ex g A cs = ex g B cs := by
        intro cs
        induction cs with
        | nil => intro A B _; rfl
        | cons c cs ih =>
          intro A B hAB
          rw [ex, ex, hAB cs rfl, ih (fun l => A (c :: l)) (fun l => B (c :: l)) (fun l hl => hAB _ (by simp [hl]))]
      exact key post _ _ (fun l hl => hF [] l (by simp; omega))
    simp only [List.nil_append, ex]
    rw [h]
    grind
  | e :: pre, F, hF => by
    have h := ex_cols g c d post pre (fun l => F (e :: l)) (fun p q hpq => by
      have := hF (e :: p) q (by simp; omega)
      simpa using this)
    have h0 := hF pre post (by simp; omega)
    simp only [List.cons_append, ex]
    rw [h, h0]
    grind

theorem det_cols (a : Nat → Nat → Int) (c d : Nat) : ∀ (rows pre post : List Nat), rows.length = pre.length + post.length + 2 → det a rows (pre ++ c :: d :: post) = - det a rows (pre ++ d :: c :: post)
  | [], pre, post, h => by simp at h
  | r :: rows, pre, post, h => by
    rw [det, det]
    exact ex_cols (a r) c d post pre (det a rows) (fun p q hpq => det_cols a c d rows p q (by simp at h; omega))
/-- A column goes to the front. -/
theorem det_col_front (a : Nat → Nat → Int) (c : Nat) (rows post : List Nat) : ∀ (pre post0 : List Nat), rows.length = post0.length + pre.length + post.length + 1 → det a rows (post0 ++ pre ++ c :: post) = (-1) ^ pre.length * det a rows (post0 ++ c :: (pre ++ post)) := by
  intro pre
  induction pre with
  | nil => intro p0 _; simp
  | cons d pre ih =>
    intro p0 h
    have h1 := ih (p0 ++ [d]) (by simp at h ⊢; omega)
    have h2 := det_cols a d c rows p0 (pre ++ post) (by simp at h ⊢; omega)
    have e1 : p0 ++ d :: pre ++ c :: post = p0 ++ [d] ++ pre ++ c :: post := by simp
    have e2 : p0 ++ [d] ++ c :: (pre ++ post) = p0 ++ d :: c :: (pre ++ post) := by simp
    rw [e1, h1, e2, h2, List.length_cons, Int.pow_succ]
    simp only [List.cons_append]
    grind
theorem det_row_swap (a : Nat → Nat → Int) (c d : Nat) (post : List Nat) : ∀ (pre cols : List Nat), det a (pre ++ c :: d :: post) cols = - det a (pre ++ d :: c :: post) cols
  | [], cols => by
    simp only [List.nil_append, det]
    exact ex_swap (a c) (a d) cols (det a post)
  | e :: pre, cols => by
    simp only [List.cons_append, det]
    rw [← ex_neg]
    exact ex_congr cols (fun l => det_row_swap a c d post pre l)
theorem det_row_front (a : Nat → Nat → Int) (c : Nat) (cols post : List Nat) : ∀ (pre p0 : List Nat), det a (p0 ++ pre ++ c :: post) cols = (-1) ^ pre.length * det a (p0 ++ c :: (pre ++ post)) cols := by
  intro pre
  induction pre with
  | nil => intro p0; simp
  | cons d pre ih =>
    intro p0
    have h1 := ih (p0 ++ [d])
    have h2 := det_row_swap a d c (pre ++ post) p0 cols
    have e1 : p0 ++ d :: pre ++ c :: post = p0 ++ [d] ++ pre ++ c :: post := by simp
    have e2 : p0 ++ [d] ++ c :: (pre ++ post) = p0 ++ d :: c :: (pre ++ post) := by simp
    rw [e1, h1, e2, h2, List.length_cons, Int.pow_succ]
    simp only [List.cons_append]
    grind
theorem one_pow (k : Nat) : ((-1 : Int) ^ k) * ((-1) ^ k) = 1 := by
  induction k with
  | zero => rfl
  | succ k ih => rw [Int.pow_succ]; grind
/-- A row that comes twice. -/
theorem det_row_twice (a : Nat → Nat → Int) (c : Nat) (cols S : List Nat) (h : c ∈ S) : det a (c :: S) cols = 0 := by
  obtain ⟨pre, post, rfl⟩ := List.append_of_mem h
  have h1 := det_row_front a c cols post pre [c]
  have h2 := det_row_swap a c c (pre ++ post) [] cols
  simp only [List.nil_append, List.cons_append] at h1 h2
  rw [h1]
  have h3 : det a (c :: c :: (pre ++ post)) cols = 0 := by omega
  rw [h3, Int.mul_zero]
/-- A column that comes twice. -/
theorem det_col_twice (a : Nat → Nat → Int) (c : Nat) (rows S : List Nat) (hl : rows.length = S.length + 1) (h : c ∈ S) : det a rows (c :: S) = 0 := by
  obtain ⟨pre, post, rfl⟩ := List.append_of_mem h
  have h1 := det_col_front a c rows post pre [c] (by simp at hl ⊢; omega)
  have h2 := det_cols a c c rows [] (pre ++ post) (by simp at hl ⊢; omega)
  simp only [List.nil_append, List.cons_append] at h1 h2
  rw [h1]
  have h3 : det a rows (c :: c :: (pre ++ post)) = 0 := by omega
  rw [h3, Int.mul_zero]
/-- A row and the column of the same number go to the front. -/
theorem det_front (a : Nat → Nat → Int) (c : Nat) (pre post : List Nat) : det a (pre ++ c :: post) (pre ++ c :: post) = det a (c :: (pre ++ post)) (c :: (pre ++ post)) := by
  have h1 := det_row_front a c (pre ++ c :: post) post pre []
  have h2 := det_col_front a c (c :: (pre ++ post)) post pre [] (by simp)
  simp only [List.nil_append] at h1 h2
  rw [h1, h2]
  have := one_pow pre.length
  grind

/-- The sum over a list of numbers. -/
def sumI (f : Nat → Int) : List Nat → Int
  | [] => 0
  | c :: l => f c + sumI f l
theorem sumI_congr {f g : Nat → Int} : ∀ (l : List Nat), (∀ x ∈ l, f x = g x) → sumI f l = sumI g l
  | [], _ => rfl
  | c :: l, h => by rw [sumI, sumI, h c (by simp), sumI_congr l (fun x hx => h x (by simp [hx]))]
theorem sumI_add (f g : Nat → Int) : ∀ (l : List Nat), sumI (fun x => f x + g x) l = sumI f l + sumI g l
  | [] => rfl
  | c :: l => by rw [sumI, sumI, sumI, sumI_add f g l]; omega
theorem sumI_mul (x : Int) (f : Nat → Int) : ∀ (l : List Nat), sumI (fun c => x * f c) l = x * sumI f l
  | [] => by simp [sumI]
  | c :: l => by rw [sumI, sumI, sumI_mul x f l]; grind
/-- The sum over the sublists of a length. -/
def sumS (f : List Nat → Int) : List Nat → Nat → Int
  | [], 0 => f []
  | [], _ + 1 => 0
  | c :: l, 0 => f []
  | c :: l, k + 1 => sumS (fun S => f (c :: S)) l k + sumS f l (k + 1)
theorem sumS_zero (f : List Nat → Int) : ∀ l, sumS f l 0 = f []
  | [] => rfl
  | _ :: _ => rfl
theorem sumS_congr : ∀ (l : List Nat) (k : Nat) {f g : List Nat → Int}, (∀ S, S.length = k → S.Sublist l → f S = g S) → sumS f l k = sumS g l k
  | [], 0, f, g, h => h [] rfl (List.Sublist.refl _)
  | [], k + 1, _, _, _ => rfl
  | c :: l, 0, f, g, h => h [] rfl (List.nil_sublist _)
  | c :: l, k + 1, f, g, h => by
    rw [sumS, sumS, sumS_congr l k (f := fun S => f (c :: S)) (g := fun S => g (c :: S)) (fun S hS hm => h _ (by simp [hS]) (hm.cons_cons c)),
      sumS_congr l (k + 1) (f := f) (g := g) (fun S hS hm => h S hS (hm.cons c))]
theorem sumS_add (f g : List Nat → Int) : ∀ (l : List Nat) (k : Nat), sumS (fun S => f S + g S) l k = sumS f l k + sumS g l k := by
  intro l
  induction l generalizing f g with
  | nil => intro k; cases k <;> rfl
  | cons c l ih =>
    intro k
    cases k with
    | zero => rfl
    | succ k => rw [sumS, sumS, sumS, ih (fun S => f (c :: S)) (fun S => g (c :: S)), ih f g]; omega
theorem sumS_mul (x : Int) (f : List Nat → Int) : ∀ (l : List Nat) (k : Nat), sumS (fun S => x * f S) l k = x * sumS f l k := by
  intro l
  induction l generalizing f with
  | nil =>
    intro k
    cases k
    · rfl
    · simp [sumS]
  | cons c l ih =>
    intro k
    cases k with
    | zero => rfl
    | succ k => rw [sumS, sumS, ih (fun S => f (c :: S)), ih f]; grind
theorem sumS_none (f : List Nat → Int) : ∀ (l : List Nat) (k : Nat), l.length < k → sumS f l k = 0 := by
  intro l
  induction l generalizing f with
  | nil =>
    intro k hk
    cases k
    · simp at hk
    · rfl
  | cons c l ih =>
    intro k hk
    cases k with
    | zero => simp at hk
    | succ k =>
      simp at hk
      rw [sumS, ih _ k hk, ih _ (k + 1) (by omega)]; rfl
theorem sumS_sum (f : Nat → List Nat → Int) : ∀ (m : List Nat) (l : List Nat) (k : Nat), sumS (fun S => sumI (fun x => f x S) m) l k = sumI (fun x => sumS (f x) l k) m
  | [], l, k => by
    show sumS (fun _ => 0) l k = 0
    have := sumS_mul 0 (fun _ => 0) l k
    simpa using this
  | c :: m, l, k => by
    rw [sumI, ← sumS_sum f m l k, ← sumS_add]
    rfl
/-- One of a list is taken out, each once. -/
def pick (H : Nat → List Nat → Int) : List Nat → Int
  | [] => 0
  | c :: S => H c S + pick (fun s S' => H s (c :: S')) S
theorem pick_sum : ∀ (l : List Nat) (k : Nat) (G : Nat → List Nat → Int), (∀ s S, s ∈ S → G s S = 0) → sumS (fun S => pick G S) l (k + 1) = sumI (fun s => sumS (G s) l k) l := by
  intro l
  induction l with
  | nil => intro k G _; rfl
  | cons c l ih =>
    intro k G hG
    rw [sumS, sumI]
    have h1 : sumS (fun S => pick G (c :: S)) l k = sumS (G c) l k + sumS (fun S => pick (fun s S' => G s (c :: S')) S) l k := by
      rw [← sumS_add]; rfl
    rw [h1, ih k G hG]
    cases k with
    | zero =>
      have e : sumI (fun s => sumS (G s) (c :: l) 0) l = sumI (fun s => sumS (G s) l 0) l := sumI_congr l (fun s _ => by rw [sumS_zero, sumS_zero])
      rw [e, sumS_zero, sumS_zero, sumS_zero]
      show G c [] + 0 + _ = _
      omega
    | succ k =>
      rw [ih k (fun s S' => G s (c :: S')) (fun s S hs => hG s _ (by simp [hs]))]
      have e : sumI (fun s => sumS (G s) (c :: l) (k + 1)) l = sumI (fun s => sumS (fun S => G s (c :: S)) l k) l + sumI (fun s => sumS (G s) l (k + 1)) l := by
        rw [← sumI_add]; rfl
      have e2 : sumS (G c) (c :: l) (k + 1) = sumS (G c) l (k + 1) := by
        rw [sumS]
        have : sumS (fun S => G c (c :: S)) l k = 0 := by
          rw [sumS_congr l k (g := fun _ => 0 * 0) (fun S _ _ => hG c _ (by simp)), sumS_mul, Int.zero_mul]
        omega
      rw [e, e2]
      omega

/-- The bordered minors. -/
def bor (a : Nat → Nat → Int) (i j : Nat) (S : List Nat) : Int := det a (i :: S) (j :: S)
/-- A minor by its first row, told as a sum over what is taken out. -/
theorem ex_to_pick (a : Nat → Nat → Int) (g : Nat → Int) (j : Nat) : ∀ (S p : List Nat), ex g (fun l => det a (p ++ S) (j :: (p ++ l))) S = (-1) ^ p.length * pick (fun s S' => g s * det a (s :: (p ++ S')) (j :: (p ++ S'))) S
  | [], p => by simp [ex, pick]
  | c :: S, p => by
    have h := ex_to_pick a g j S (p ++ [c])
    have e1 : ∀ l : List Nat, det a (p ++ c :: S) (j :: (p ++ c :: l)) = det a (p ++ [c] ++ S) (j :: (p ++ [c] ++ l)) := fun l => by simp
    rw [ex, pick, ex_congr S (G := fun l => det a (p ++ [c] ++ S) (j :: (p ++ [c] ++ l))) (fun l => e1 l), h]
    have h2 := det_row_front a c (j :: (p ++ S)) S p []
    simp only [List.nil_append] at h2
    rw [h2]
    have e2 : (fun s S' => g s * det a (s :: (p ++ [c] ++ S')) (j :: (p ++ [c] ++ S'))) = (fun s S' => (fun s S' => g s * det a (s :: (p ++ S')) (j :: (p ++ S'))) s (c :: S')) := by
      funext s S'
      simp
    rw [e2, List.length_append, List.length_singleton, Int.pow_succ]
    grind
theorem bor_pick (a : Nat → Nat → Int) (i j : Nat) (S : List Nat) : bor a i j S = a i j * det a S S - pick (fun s S' => a i s * bor a s j S') S := by
  have h := ex_to_pick a (a i) j S []
  simp only [List.nil_append, List.length_nil, Int.pow_zero, Int.one_mul] at h
  unfold bor
  rw [det, ex]
  rw [h]
/-- Each taken to the front leaves the minor as it is. -/
theorem pick_const (a : Nat → Nat → Int) : ∀ (S p : List Nat), pick (fun s S' => det a (s :: (p ++ S')) (s :: (p ++ S'))) S = (S.length : Int) * det a (p ++ S) (p ++ S)
  | [], p => by simp [pick]
  | c :: S, p => by
    have h := pick_const a S (p ++ [c])
    have e2 : (fun s S' => det a (s :: (p ++ [c] ++ S')) (s :: (p ++ [c] ++ S'))) = (fun s S' => (fun s S' => det a (s :: (p ++ S')) (s :: (p ++ S'))) s (c :: S')) := by
      funext s S'
      simp
    rw [e2] at h
    rw [pick, h, List.length_cons, ← det_front]
    have e : p ++ [c] ++ S = p ++ c :: S := by simp
    rw [e]
    grind

def eSum (a : Nat → Nat → Int) (n k : Nat) : Int := sumS (fun S => det a S S) (List.range n) k
def qSum (a : Nat → Nat → Int) (n k i j : Nat) : Int := sumS (bor a i j) (List.range n) k
theorem bor_zero (a : Nat → Nat → Int) (s j : Nat) (S : List Nat) (h : s ∈ S) : bor a s j S = 0 := det_row_twice a s _ S h
theorem qSum_next (a : Nat → Nat → Int) (n k i j : Nat) : qSum a n (k + 1) i j = a i j * eSum a n (k + 1) - sumI (fun s => a i s * qSum a n k s j) (List.range n) := by
  unfold qSum eSum
  rw [sumS_congr (List.range n) (k + 1) (g := fun S => a i j * det a S S + (-1) * pick (fun s S' => a i s * bor a s j S') S) (fun S _ _ => by rw [bor_pick]; omega), sumS_add, sumS_mul, sumS_mul,
    pick_sum _ _ _ (fun s S hs => by rw [bor_zero a s j S hs, Int.mul_zero])]
  rw [sumI_congr (List.range n) (g := fun s => a i s * sumS (bor a s j) (List.range n) k) (fun s _ => sumS_mul _ _ _ _)]
  omega
theorem qSum_zero (a : Nat → Nat → Int) (n i j : Nat) : qSum a n 0 i j = a i j := by
  unfold qSum
  rw [sumS_zero]
  simp [bor, det, ex]
theorem trace_q (a : Nat → Nat → Int) (n k : Nat) : sumI (fun i => qSum a n k i i) (List.range n) = ((k + 1 : Nat) : Int) * eSum a n (k + 1) := by
  unfold qSum eSum
  rw [← pick_sum (List.range n) k (fun s => bor a s s) (fun s S hs => bor_zero a s s S hs), ← sumS_mul]
  exact sumS_congr _ _ (fun S hS _ => by
    have h := pick_const a S []
    simp only [List.nil_append] at h
    show pick (fun s S' => det a (s :: S') (s :: S')) S = _
    rw [h, hS])
end Go.Proofs.YtilacamhjibneaaDoor

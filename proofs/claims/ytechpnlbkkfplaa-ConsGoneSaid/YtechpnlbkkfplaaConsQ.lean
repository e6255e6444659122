/- cons: the queues that have one, rising, each once; the laws' first look. -/
import Derived.Test.YtechpnlbkkfplaaConsR
import Derived.Test.YtechpnlbkkfplaaLawsD
import Derived.Test.YtechpnlbkkfplaaSortString
import Derived.Test.YtechpnlbkkfplaaPrLaw6Sametexts
import Derived.Test.YtechpnlbkkfplaaPrLaw19Awake
set_option linter.unusedVariables false
set_option linter.unusedSimpArgs false
namespace Go.Proofs.Ytechpnlbkkfplaa.Pr
open Go Go.Lift Go.Proofs

abbrev strV (x : List UInt8) : Value := .string (mkS x)
theorem sl_str : SlT P T.sl_string T.string 1 16 [.string (mkS [])] := slT (by kernel_rfl) (by kernel_rfl)
theorem u_sls : P.underlying T.sl_string = some (.slice T.string) := by kernel_rfl

/-! ### Each once, of a row -/
abbrev ddP (x : Nat → List UInt8) (j : Nat) : Bool := decide (j = 0) || !(x j == x (j - 1))
abbrev ddL (xs : List (List UInt8)) : List (List UInt8) := rF xs.length (ddP fun i => xs.getD i []) fun i => xs.getD i []
theorem ddP_neg {x : Nat → List UInt8} {j : Nat} (h : 0 < j) (e : x j = x (j - 1)) : ddP x j = false := by
  unfold ddP
  rw [beq_iff_eq.2 e, decide_eq_false (by omega)]; rfl
theorem ddP_pos {x : Nat → List UInt8} {j : Nat} (e : x j ≠ x (j - 1)) : ddP x j = true := by
  unfold ddP
  rw [beq_eq_false_iff_ne.2 e]; simp
theorem ddL_mem (xs : List (List UInt8)) (q : List UInt8) : q ∈ ddL xs ↔ q ∈ xs := by
  unfold ddL
  rw [rF_mem]
  constructor
  · rintro ⟨j, hj, _, rfl⟩
    rw [List.getD_eq_getElem?_getD, List.getElem?_eq_getElem hj]
    exact List.getElem_mem hj
  · intro h
    obtain ⟨i, hi, rfl⟩ := List.mem_iff_getElem.1 h
    have go : ∀ i, i < xs.length → ∃ j, j < xs.length ∧ ddP (fun i => xs.getD i []) j = true ∧ xs.getD i [] = xs.getD j [] := by
      intro i
      induction i with
      | zero => exact fun h0 => ⟨0, h0, by simp, rfl⟩
      | succ i ih =>
        intro hi
        by_cases e : xs.getD (i + 1) [] = xs.getD i []
        · obtain ⟨j, h1, h2, h3⟩ := ih (by omega)
          exact ⟨j, h1, h2, e.trans h3⟩
        · exact ⟨i + 1, hi, ddP_pos (x := fun i => xs.getD i []) e, rfl⟩
    obtain ⟨j, h1, h2, h3⟩ := go i hi
    refine ⟨j, h1, h2, ?_⟩
    rw [← h3, List.getD_eq_getElem?_getD, List.getElem?_eq_getElem hi]; rfl
theorem ddL_up {xs : List (List UInt8)} (hs : xs.Pairwise sort_string.o.le) : (ddL xs).Pairwise fun a b => sort_string.o.lt a b = true := by
  unfold ddL rF
  rw [List.pairwise_map]
  have : ((List.range xs.length).filter (ddP fun i => xs.getD i [])).Pairwise fun a b => a < b := List.pairwise_lt_range.sublist List.filter_sublist
  refine this.imp_of_mem fun {a b} ha hb hab => ?_
  obtain ⟨h1, h2⟩ := List.mem_filter.1 hb
  have hb' := List.mem_range.1 h1
  have ge : ∀ i j, i ≤ j → j < xs.length → sort_string.o.le (xs.getD i []) (xs.getD j []) := fun i j hij hj => by
    rw [List.getD_eq_getElem?_getD, List.getD_eq_getElem?_getD, List.getElem?_eq_getElem hj, List.getElem?_eq_getElem (show i < xs.length by omega)]
    rcases Nat.lt_or_ge i j with h | h
    · exact List.pairwise_iff_getElem.1 hs i j (by omega) hj h
    · have : i = j := by omega
      subst this
      exact sort_string.o.le_refl _
  cases hl : sort_string.o.lt (xs.getD a []) (xs.getD b []) with
  | true => rfl
  | false =>
    have e1 := ge a (b - 1) (by omega) (by omega)
    have e2 := ge (b - 1) b (by omega) hb'
    have e3 : sort_string.o.le (xs.getD b []) (xs.getD (b - 1) []) := sort_string.o.le_trans hl e1
    have e4 := sort_string.le_anti _ _ e2 e3
    simp only [ddP, Bool.or_eq_true, decide_eq_true_eq, Bool.not_eq_true', beq_eq_false_iff_ne] at h2
    rcases h2 with h2 | h2
    · omega
    · exact absurd e4.symm h2
/-- Two such rows of the same are one. -/
theorem str_ext : ∀ {a b : List (List UInt8)}, (a.Pairwise fun x y => sort_string.o.lt x y = true) → (b.Pairwise fun x y => sort_string.o.lt x y = true) → (∀ q, q ∈ a ↔ q ∈ b) → a = b
  | [], [], _, _, _ => rfl
  | [], y :: _, _, _, h => by have := (h y).2 (by simp); cases this
  | x :: _, [], _, _, h => by have := (h x).1 (by simp); cases this
  | x :: r, y :: s, u, v, h => by
    have ux := List.pairwise_cons.1 u
    have vy := List.pairwise_cons.1 v
    have irr : ∀ z, sort_string.o.lt z z = true → False := fun z hz => by have := sort_string.o.asym z z hz; rw [hz] at this; cases this
    have e : x = y := by
      rcases List.mem_cons.1 ((h x).1 (by simp)) with e | e
      · exact e
      · rcases List.mem_cons.1 ((h y).2 (by simp)) with e2 | e2
        · exact e2.symm
        · have h1 := ux.1 _ e2
          have h2 := sort_string.o.asym _ _ (vy.1 _ e)
          rw [h1] at h2; cases h2
    subst e
    rw [str_ext ux.2 vy.2 fun z => ⟨fun hz => ?_, fun hz => ?_⟩]
    · rcases List.mem_cons.1 ((h z).1 (List.mem_cons_of_mem _ hz)) with e | e
      · subst e; exact absurd (ux.1 _ hz) fun h => irr _ h
      · exact e
    · rcases List.mem_cons.1 ((h z).2 (List.mem_cons_of_mem _ hz)) with e | e
      · subst e; exact absurd (vy.1 _ hz) fun h => irr _ h
      · exact e

section
variable {K : KT} {L : List Asr} {h : Heap} {s : Addr} {C : List CN} {last : Int}

theorem getD_some {α : Type} {xs : List α} {i : Nat} (h : i < xs.length) (d : α) : xs[i]? = some (xs.getD i d) := by
  rw [List.getD_eq_getElem?_getD, List.getElem?_eq_getElem h]; rfl

theorem compact_inner {t : SV} {xs : List (List UInt8)} {k0 : Nat} (R : OA → Nat → Nat → Int → Heap → Prop) (hl : xs.length < 1099511627776) (hk0 : 0 < k0 ∧ k0 < xs.length)
    (hK : ∀ h' o, St (Ow 1 o ((ddL xs).map strV) :: L) h' → K (.slice o.1 o.2.1 o.2.2) h') :
    ∀ (fuel j k : Nat) (ys : List (List UInt8)) (h : Heap), xs.length - j < fuel → j ≤ xs.length → k0 < j → k < j → ys.length = xs.length → ys.take k = rF j (ddP fun i => xs.getD i []) (fun i => xs.getD i []) → ys.drop (j - 1) = xs.drop (j - 1) → St (Ow 1 t (ys.map strV) :: L) h →
      slices_Compact_string_string.L3 K R fuel t.1 t.2.1 t.2.2 k (slA t.1 k0 t.2.2 1) (t.2.1 - k0) (t.2.2 - k0) ((j - k0 : Nat) : Int) h
  | 0, _, _, _, _, hf, _, _, _, _, _, _, _ => absurd hf (Nat.not_lt_zero _)
  | fuel + 1, j, k, ys, h, hf, hj, hk, hkj, hy, e1, e2, S => by
    have el : t.2.1 = xs.length := by have := S.ow.1; simp [hy] at this; omega
    have hc : t.2.1 ≤ t.2.2 := S.ow.2.1
    unfold slices_Compact_string_string.L3
    have tl : Sl 1 h (slA t.1 k0 t.2.2 1) (t.2.1 - k0) ((ys.drop k0).map strV) := by
      have := S.sl.drop hc (n := k0) (by omega)
      rw [List.map_drop]; exact this
    by_cases hlt : j < xs.length
    · have rd : ∀ i, j - 1 ≤ i → i < xs.length → ((ys.drop k0).map strV)[i - k0]? = some (strV (xs.getD i [])) := fun i hi hix => by
        rw [List.getElem?_map, List.getElem?_drop, show k0 + (i - k0) = i by omega]
        have := congrArg (fun l => l[i - (j - 1)]?) e2
        simp only [List.getElem?_drop] at this
        rw [show j - 1 + (i - (j - 1)) = i by omega] at this
        rw [this, getD_some hix []]; rfl
      refine ifT (by simp; omega) (ixV (n := j - k0) (w := strV (xs.getD j [])) tl rfl (rd j (by omega) hlt) fun p ep cp => ?_)
      rw [show IntKind.i64.wrap (((j - k0 : Nat) : Int) - 1) = ((j - 1 - k0 : Nat) : Int) from wrapS (by omega) (by omega)]
      refine ixV (n := j - 1 - k0) (w := strV (xs.getD (j - 1) [])) tl rfl (rd (j - 1) (by omega) (by omega)) fun p2 ep2 cp2 => ⟨_, cp, _, cp2, ?_⟩
      have ed : ys.drop j = xs.drop j := by
        have := congrArg (List.drop 1) e2
        rw [List.drop_drop, List.drop_drop, show j - 1 + 1 = j by omega] at this
        exact this
      have next : ∀ (k' : Nat) (ys' : List (List UInt8)) (h' : Heap), k' < j + 1 → ys'.length = xs.length → ys'.take k' = rF (j + 1) (ddP fun i => xs.getD i []) (fun i => xs.getD i []) → ys'.drop j = xs.drop j → St (Ow 1 t (ys'.map strV) :: L) h' →
          slices_Compact_string_string.j4 K R (slices_Compact_string_string.L3 K R fuel) t.1 t.2.1 t.2.2 k' (slA t.1 k0 t.2.2 1) (t.2.1 - k0) (t.2.2 - k0) ((j - k0 : Nat) : Int) h' := fun k' ys' h' a1 a2 a3 a4 S' => by
        unfold slices_Compact_string_string.j4
        unfold bd
        rw [show IntKind.i64.wrap (((j - k0 : Nat) : Int) + 1) = ((j + 1 - k0 : Nat) : Int) from wrapS (by omega) (by omega)]
        exact compact_inner R hl hk0 hK fuel (j + 1) k' ys' h' (by omega) (by omega) (by omega) a1 a2 a3 (by rw [Nat.add_sub_cancel]; exact a4) S'
      have st := rF_succ j (ddP fun i => xs.getD i []) (fun i => xs.getD i [])
      by_cases e : xs.getD j [] = xs.getD (j - 1) []
      · refine ifF (by rw [beq_iff_eq.2 e]; rfl) (next k ys h (by omega) hy ?_ ed S)
        rw [st, if_neg (by rw [ddP_neg (x := fun i => xs.getD i []) (by omega) e]; simp), List.append_nil, e1]
      · refine ifT (by simpa using e) (ixV (n := j - k0) (w := strV (xs.getD j [])) tl rfl (rd j (by omega) hlt) fun p3 ep3 cp3 => ⟨_, cp3, ?_⟩)
        refine S.owSet (i := (k : Int)) (n := k) rfl (by rw [List.length_map]; omega) rfl fun h2 S2 => ?_
        unfold bd
        rw [show IntKind.i64.wrap ((k : Int) + 1) = ((k + 1 : Nat) : Int) from wrapS (by omega) (by omega)]
        rw [← List.map_set (f := strV)] at S2
        refine next (k + 1) (ys.set k (xs.getD j [])) h2 (by omega) (by simp [hy]) ?_ (by rw [List.drop_set_of_lt (by omega)]; exact ed) S2
        rw [st, if_pos (ddP_pos (x := fun i => xs.getD i []) e), ← e1, List.take_add_one, List.take_set_of_le (Nat.le_refl _)]
        simp [show k < ys.length by omega]
    · have : j = xs.length := by omega
      subst this
      refine ifF (by simp; omega) ?_
      unfold slices_Compact_string_string.j2
      refine ⟨⟨by omega, by omega⟩, ?_⟩
      rw [Int.toNat_natCast]
      refine S.clr sl_str rfl (by simp [one]) (by decide) (n := k) (by omega) fun h2 S2 => ?_
      unfold bd
      rw [slA_z]
      refine ⟨⟨by omega, by omega⟩, hK h2 (t.1, k, t.2.2) ?_⟩
      rw [Nat.mul_one, ← List.map_take, e1] at S2
      exact S2

theorem compact_loop {t : SV} {xs : List (List UInt8)} (hl : xs.length < 1099511627776) (hK : ∀ h' o, St (Ow 1 o ((ddL xs).map strV) :: L) h' → K (.slice o.1 o.2.1 o.2.2) h') (S : St (Ow 1 t (xs.map strV) :: L) h) :
    ∀ (fuel k : Nat), xs.length - k < fuel → 0 < k → k ≤ xs.length → xs.take k = rF k (ddP fun i => xs.getD i []) (fun i => xs.getD i []) → slices_Compact_string_string.L1 K fuel t.1 t.2.1 t.2.2 k h
  | 0, _, hf, _, _, _ => absurd hf (Nat.not_lt_zero _)
  | fuel + 1, k, hf, h0, hk, e1 => by
    have el : t.2.1 = xs.length := by have := S.ow.1; simp at this; omega
    unfold slices_Compact_string_string.L1
    by_cases hlt : k < xs.length
    · have rd : ∀ i, i < xs.length → (xs.map strV)[i]? = some (strV (xs.getD i [])) := fun i hi => by rw [List.getElem?_map, getD_some hi []]; rfl
      refine ifT (by simp; omega) (ixV (n := k) (w := strV (xs.getD k [])) S.sl rfl (rd k hlt) fun p ep cp => ?_)
      rw [show IntKind.i64.wrap ((k : Int) - 1) = ((k - 1 : Nat) : Int) from wrapS (by omega) (by omega)]
      refine ixV (n := k - 1) (w := strV (xs.getD (k - 1) [])) S.sl rfl (rd _ (by omega)) fun p2 ep2 cp2 => ⟨_, cp, _, cp2, ?_⟩
      have st := rF_succ k (ddP fun i => xs.getD i []) (fun i => xs.getD i [])
      by_cases e : xs.getD k [] = xs.getD (k - 1) []
      · refine ifT (beq_iff_eq.2 e) ⟨⟨by omega, by omega⟩, ?_⟩
        unfold bd
        rw [Int.toNat_natCast]
        have := compact_inner (t := t) (slices_Compact_string_string.L1 K fuel) hl ⟨h0, hlt⟩ hK (xs.length + 1) (k + 1) k xs h (by omega) (by omega) (by omega) (by omega) rfl (by rw [st, if_neg (by rw [ddP_neg (x := fun i => xs.getD i []) (by omega) e]; simp), List.append_nil, e1]) rfl S
        rw [show ((k + 1 - k : Nat) : Int) = 1 by omega] at this
        exact ⟨_, this⟩
      · refine ifF (by simpa using e) ?_
        unfold bd
        rw [show IntKind.i64.wrap ((k : Int) + 1) = ((k + 1 : Nat) : Int) from wrapS (by omega) (by omega)]
        refine compact_loop hl hK S fuel (k + 1) (by omega) (by omega) (by omega) ?_
        rw [st, if_pos (ddP_pos (x := fun i => xs.getD i []) e), List.take_add_one, getD_some hlt [], e1]; rfl
    · have : k = xs.length := by omega
      subst this
      refine ifF (by simp; omega) (hK h t ?_)
      rw [List.take_of_length_le (Nat.le_refl _)] at e1
      rw [show ddL xs = xs from e1.symm]
      exact S

theorem compactS {t : SV} {xs : List (List UInt8)} (hl : xs.length < 1099511627776) (hK : ∀ h' o, St (Ow 1 o ((ddL xs).map strV) :: L) h' → K (.slice o.1 o.2.1 o.2.2) h') (S : St (Ow 1 t (xs.map strV) :: L) h) :
    CallsH P F.slices_Compact_string_string [.slice t.1 t.2.1 t.2.2] K h := by
  have el : t.2.1 = xs.length := by have := S.ow.1; simp at this; omega
  refine slices_Compact_string_string.ok ?_
  unfold slices_Compact_string_string.p0
  by_cases h2 : xs.length < 2
  · refine ifT (by simp; omega) (hK h t ?_)
    have : ddL xs = xs := by
      match xs, h2 with
      | [], _ => rfl
      | [x], _ => rfl
    rw [this]
    exact S
  · refine ifF (by simp; omega) ⟨xs.length + 1, ?_⟩
    have := compact_loop hl hK S (xs.length + 1) 1 (by omega) (by omega) (by omega) (by
      rw [show rF 1 (ddP fun i => xs.getD i []) (fun i => xs.getD i []) = [xs.getD 0 []] from rfl, List.take_add_one, List.take_zero, getD_some (by omega) []]; rfl)
    exact this

/-! ### The queues -/
theorem queues_loop {Fm : List (Int × CN)} {mo r : Nat} (hl : Fm.length < 1099511627776)
    (hK : ∀ h' o (out : List (List UInt8)), (∀ q, q ∈ out ↔ ∃ x ∈ Fm, quC x.2 = q) → out.length ≤ Fm.length → St (Ow 1 o (out.map strV) :: Mq kkI vvC mo Fm :: L) h' → cons_Cons_Queues.j1 K o.1 o.2.1 o.2.2 h') :
    ∀ (fuel : Nat) (left : List (Int × CN)) (cur : Option (Int × CN)) (o : SV) (out : List (List UInt8)) (h : Heap), left.length < fuel → (∀ q ∈ out, ∃ x ∈ Fm, quC x.2 = q) → (∀ x ∈ Fm, x ∈ left ∨ quC x.2 ∈ out) → out.length + left.length ≤ Fm.length →
      St (ItA kkI vvC mo r Fm left cur :: Ow 1 o (out.map strV) :: L) h → cons_Cons_Queues.L2 K fuel o.1 o.2.1 o.2.2 ⟨r, 0, none⟩ h
  | 0, _, _, _, _, _, hf, _, _, _, _ => absurd hf (Nat.not_lt_zero _)
  | fuel + 1, left, cur, o, out, h, hf, a1, a2, a3, S => by
    have el : o.2.1 = out.length := by have := S.p1.ow.1; simp at this; omega
    unfold cons_Cons_Queues.L2
    refine St.next S (fun hn => ?_) (fun h1 l1 k v l2 hn hm S1 => ?_)
    · subst hn
      refine ifF rfl (hK h o out (fun q => ⟨a1 q, fun ⟨x, hx, e⟩ => ?_⟩) (by omega) S.itEnd.p1)
      rcases a2 x hx with h3 | h3
      · cases h3
      · rw [← e]; exact h3
    · refine ifT rfl (St.entry S1 ⟨cc v, rfl, ?_⟩)
      unfold bd
      have S2 : St (Bx (top h1) zc :: ItA kkI vvC mo r Fm (l1 ++ l2) (some (k, v)) :: Ow 1 o (out.map strV) :: L) (al h1 zc.toArray T.api_Con) := S1.al zc T.api_Con
      refine ⟨rfl, S2.wrA (ws := cc v) rfl (cc_one _) fun h2 S3 => ⟨_, S3.c 3 rfl, ?_⟩⟩
      have S4 := S3.al [strV (quC v)] T.string
      have sa : Sl 1 (al h2 [strV (quC v)].toArray T.string) (some (top h2)) 1 [strV (quC v)] := ⟨rfl, S4.mem.1⟩
      refine S4.p3.app sl_str rfl u_sls (fun k e => by cases e) (Src.slice (n := 1) (c := 1) sa (by simp [one])) (by rw [hn] at a3; simp at a3; omega) (by rw [hn] at a3; simp at a3; omega) fun p' c' h3 S5 => ⟨_, _, _, rfl, ?_⟩
      refine queues_loop hl hK fuel (l1 ++ l2) (some (k, v)) (p', o.2.1 + 1, c') (out ++ [quC v]) h3 (by rw [hn] at hf; simp at hf ⊢; omega) (fun q hq => ?_) (fun x hx => ?_) (by rw [hn] at a3; simp at a3 ⊢; omega) ?_
      · rcases List.mem_append.1 hq with hq | hq
        · exact a1 q hq
        · simp at hq; exact ⟨_, hm, hq.symm⟩
      · rcases a2 x hx with h4 | h4
        · rw [hn] at h4
          rcases List.mem_append.1 h4 with h5 | h5
          · exact .inl (List.mem_append.2 (.inl h5))
          · rcases List.mem_cons.1 h5 with h6 | h6
            · subst h6; exact .inr (by simp)
            · exact .inl (List.mem_append.2 (.inr h6))
        · exact .inr (List.mem_append.2 (.inl h4))
      · rw [List.map_append]
        exact S5.d1.d1.p1

theorem queuesConW (S : St (CnW s C last :: L) h) (hl : C.length < 1099511627776)
    (hK : ∀ h' o (zs : List (List UInt8)), (zs.Pairwise fun a b => sort_string.o.lt a b = true) → (∀ q, q ∈ zs ↔ q ∈ C.map quC) → zs.length ≤ C.length → St (Ow 1 o (zs.map strV) :: CnW s C last :: L) h' → K (.slice o.1 o.2.1 o.2.2) h') :
    CallsH P F.cons_Cons_Queues [.pointer (some s)] K h := by
  obtain ⟨mp, mo, Pl, Fm, O, q, eC, S0⟩ := CnW.out S
  have hO : O.length = C.length := by rw [← eC, List.length_map]
  have hF : Fm.length = O.length := by have := q.permF.length_eq; simpa using this
  refine cons_Cons_Queues.ok ?_
  unfold cons_Cons_Queues.p0
  refine ⟨s, rfl, some mo, S0.c 1 rfl, ?_⟩
  refine St.range umC S0.p2 fun h2 S2 => ⟨Fm.length + 1, ?_⟩
  refine queues_loop (L := Bx s [.map (some mp), .map (some mo), .int .i64 last] :: Mq kkW vvN mp Pl :: L) (by omega) (fun h3 o out hm hle S3 => ?_) _ Fm none (none, 0, 0) [] h2 (by omega) (by simp) (fun x hx => .inl hx) (by simp) (S2.owNil 1).p1
  unfold cons_Cons_Queues.j1
  refine sort_string.sortS S3 (by omega) [] fun h4 ys py sy S4 => ⟨rfl, ?_⟩
  have hlen := py.length_eq
  refine compactS (by omega) (fun h5 o5 S5 => ⟨_, _, _, rfl, hK h5 o5 (ddL ys) (ddL_up sy) (fun z => ?_) ?_ ?_⟩) S4
  · rw [ddL_mem, py.mem_iff, hm, ← eC]
    simp only [List.mem_map]
    constructor
    · rintro ⟨x, hx, rfl⟩
      exact ⟨x.2, ⟨x, (q.of x.1 x.2).1 ((get?_iff q.ndF).2 hx), rfl⟩, rfl⟩
    · rintro ⟨c, ⟨x, hx, rfl⟩, rfl⟩
      exact ⟨x, get?_mem ((q.of x.1 x.2).2 hx), rfl⟩
  · rw [rF_len]
    have := cnt_le ys.length (ddP fun i => ys.getD i [])
    omega
  · exact (CnW.inn (mp := mp) (mo := mo) q eC (show St (CnA s mp mo last Pl Fm (Ow 1 o5 ((ddL ys).map strV) :: L)) h5 from S5.to)).p1

theorem same_loop {a b : SV} {xs ys : List (List UInt8)} (hl : xs.length = ys.length) (hx : xs.length < 1099511627776) (ha : Sl 1 h a.1 a.2.1 (xs.map strV)) (hb : Sl 1 h b.1 b.2.1 (ys.map strV)) (hK : K (.bool (decide (xs = ys))) h) :
    ∀ (fuel i : Nat), xs.length - i < fuel → i ≤ xs.length → xs.take i = ys.take i → waybilllaw6_SameTexts.L1 K fuel a.1 a.2.1 a.2.2 b.1 b.2.1 b.2.2 i h
  | 0, _, hf, _, _ => absurd hf (Nat.not_lt_zero _)
  | fuel + 1, i, hf, hi, e => by
    have el : a.2.1 = xs.length := by have := ha.1; simpa using this.symm
    unfold waybilllaw6_SameTexts.L1
    by_cases hlt : i < xs.length
    · have h2 : i < ys.length := by omega
      refine ifT (by simp; omega) (ixV (n := i) (w := strV xs[i]) ha rfl (by simp [hlt]) fun p ep cp => ixV (n := i) (w := strV ys[i]) hb rfl (by simp [h2]) fun p2 ep2 cp2 => ⟨_, cp, _, cp2, ?_⟩)
      by_cases he : xs[i] = ys[i]
      · refine ifF (by simp [he]) ?_
        unfold bd
        rw [show IntKind.i64.wrap ((i : Int) + 1) = ((i + 1 : Nat) : Int) from wrapS (by omega) (by omega)]
        refine same_loop hl hx ha hb hK fuel (i + 1) (by omega) (by omega) ?_
        rw [List.take_add_one, List.take_add_one, e, List.getElem?_eq_getElem hlt, List.getElem?_eq_getElem h2, he]
      · refine ifT (by simpa using he) ?_
        have : decide (xs = ys) = false := decide_eq_false fun e2 => he (by subst e2; rfl)
        rw [this] at hK
        exact hK
    · refine ifF (by simp; omega) ?_
      rw [List.take_of_length_le (by omega), List.take_of_length_le (by omega)] at e
      rw [decide_eq_true e] at hK
      exact hK
theorem sameTextsS {a b : SV} {xs ys : List (List UInt8)} (hx : xs.length < 1099511627776) (ha : Sl 1 h a.1 a.2.1 (xs.map strV)) (hb : Sl 1 h b.1 b.2.1 (ys.map strV)) (hK : K (.bool (decide (xs = ys))) h) :
    CallsH P F.waybilllaw6_SameTexts [.slice a.1 a.2.1 a.2.2, .slice b.1 b.2.1 b.2.2] K h := by
  have ea : a.2.1 = xs.length := by have := ha.1; simpa using this.symm
  have eb : b.2.1 = ys.length := by have := hb.1; simpa using this.symm
  refine waybilllaw6_SameTexts.ok ?_
  unfold waybilllaw6_SameTexts.p0
  by_cases hl : xs.length = ys.length
  · exact ifF (by rw [ea, eb, hl]; exact bne_self_eq_false _) ⟨xs.length + 1, same_loop hl hx ha hb hK _ 0 (by omega) (by omega) rfl⟩
  · refine ifT (by rw [ea, eb]; simp only [bne_iff_ne, ne_eq, Int.natCast_inj]; exact hl) ?_
    have : decide (xs = ys) = false := decide_eq_false fun e2 => hl (by rw [e2])
    rw [this] at hK
    exact hK

theorem true_1 : TellsN (fun _ : Unit => emp) (fun _ _ => ()) (fun _ => true) (.func (.func F.waybilllaw19_awake_1) #[] #[]) := fun x st N h K S hK => by
  refine callV_fn (waybilllaw19_awake_1.ok ?_)
  unfold waybilllaw19_awake_1.p0
  unfold bd
  exact hK _ (S.al (cc x) T.api_Con).tl

theorem awake19S (S : St L h) (hK : ∀ h', St L h' → K (.bool true) h') : CallsH P F.waybilllaw19_awake [] K h := by
  refine waybilllaw19_awake.ok ?_
  unfold waybilllaw19_awake.p0
  let a : CN := (0, 0, [97], [113], false)
  let b : CN := (0, 0, [98], [113], false)
  let c : CN := (0, 0, [97], [114], false)
  refine newConW S fun h1 s S1 => ⟨_, rfl, ifF rfl ?_⟩
  refine addConW (c := a) S1 (by omega) (fun hm => absurd hm (by simp)) fun _ h2 S2 => ⟨true, rfl, ?_⟩
  refine addConW (c := b) S2 (by omega) (fun hm => absurd hm (by decide)) fun _ h3 S3 => ⟨true, rfl, ?_⟩
  refine addConW (c := c) S3 (by omega) (fun _ h4 S4 => ⟨false, rfl, ?_⟩) fun hm => absurd (by decide) hm
  refine turnConW (st := ()) true_1 (q := [113]) S4.emp' (by simp) (by omega) (fun hno => by have := hno a (by decide); cases this) fun i x hx hd hno h5 S5 => ?_
  have hi : i = 0 := by
    cases i with
    | zero => rfl
    | succ i =>
      have := hno a (by
        rw [show ofC ([] ++ [a] ++ [b]) [113] = [a, b] by decide]
        simp)
      cases this
  subst hi
  have hxa : x = a := by
    have : (ofC ([] ++ [a] ++ [b]) [113])[0]? = some a := by decide
    rw [this] at hx
    exact (Option.some.inj hx).symm
  subst hxa
  refine ⟨cc a, true, rfl, ?_⟩
  unfold bd
  have S6 : St (CnW s [b, a] (0 + 1 + 1 + 1) :: L) h5 := S5.tl
  have S7 : St (Bx (top h5) zc :: CnW s [b, a] (0 + 1 + 1 + 1) :: L) (al h5 zc.toArray T.api_Con) := S6.al zc T.api_Con
  refine ⟨rfl, S7.wrA (ws := cc a) rfl (cc_one _) fun h7 S8 => ?_⟩
  refine ofConW (q := [113]) (L := Bx (top h5) (cc a) :: L) S8.p1 (by simp) (by omega) fun h8 o S9 => ⟨_, _, _, rfl, ?_⟩
  have S9 : St (Ow 5 o ([b, a].flatMap cc) :: CnW s [b, a] (0 + 1 + 1 + 1) :: Bx (top h5) (cc a) :: L) h8 := S9
  have lo : o.2.1 = 2 := by have := S9.ow.1; rw [cc_len] at this; simp at this; omega
  refine ifT rfl (ifT rfl (ifT rfl ⟨_, S9.p2.c 2 rfl, ifT rfl (ifT rfl (ifT (by rw [lo]; rfl) ?_))⟩))
  obtain ⟨p, ep, p0, p1, pc⟩ := ixF cc5 (by decide) (xs := [b, a]) S9.sl (i := (0 : Int)) (n := 0) rfl rfl
  refine ⟨p, ep, p0, p1, _, pc 2 _ rfl, ifT rfl ?_⟩
  refine queuesConW (L := Ow 5 o ([b, a].flatMap cc) :: Bx (top h5) (cc a) :: L) S9.p1 (by simp) fun h9 t zs uz mz lz S10 => ⟨_, _, _, rfl, ?_⟩
  have ez : zs = [[113]] := str_ext uz (List.pairwise_singleton ..) fun q => by rw [mz]; simp [quC, a, b]
  subst ez
  have S11 := S10.al [strV [113]] T.string
  refine sameTextsS (b := (some (top h9), 1, 1)) (xs := [[113]]) (ys := [[113]]) (by simp) S11.p1.sl ⟨rfl, S11.mem.1⟩ ⟨true, rfl, hK _ S11.tl.tl.tl.tl.tl⟩
end
end Go.Proofs.Ytechpnlbkkfplaa.Pr

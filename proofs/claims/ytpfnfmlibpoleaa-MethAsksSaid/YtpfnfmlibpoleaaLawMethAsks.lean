/- MethAsks over the heap: what is too much or too little may not be. -/
import Derived.Test.YtpfnfmlibpoleaaMethN
import Derived.Test.YtpfnfmlibpoleaaLiftArg
import Derived.Test.YtpfnfmlibpoleaaPrLaw4Methasks
set_option linter.unusedVariables false
set_option linter.unusedSimpArgs false
namespace Go.Proofs.Ytpfnfmlibpoleaa.Pr
open Go Go.Lift Go.Proofs

section
variable {K : KT} {L R : List Asr} {h : Heap}

theorem asks_j1 {m : Addr} {a b : Int} {x : PM} {y : MV} {B : Nat → Prop} (S : St (Bx m (mcells a b y) :: Im 1 y.n (nums x.N) :: Im 1 y.s (strs x.S) :: Im 1 y.f (bools x.F) :: Tb B y.t x.T :: L) h) (hx : smallM x) (no : methW a b x = none) (ha : 0 ≤ a ∧ a < 256) (hb : 0 ≤ b ∧ b < 256) (hK : ∀ h', St L h' → K (.bool true) h') : waybilllaw4_MethAsks.j1 K m h := by
  unfold waybilllaw4_MethAsks.j1
  have S1 : St (Im 1 (some (top h), 1, 1) (u8s [1]) :: _) (al h #[.int .u8 1] T.uint8) := S.lit [.int .u8 1] T.uint8 1 rfl
  simp only [bd, rdC' (S1.rall m 6 rfl)]
  refine mappS (t := (some (top h), 1, 1)) (bs := [1]) (B := B) (y := y) (x := x) S1 hx (by decide) (by omega) (by omega) fun p l c h1 S4 => ⟨_, _, _, _, rfl, ?_⟩
  rw [no] at S4 ⊢
  simp only [Option.getD_none, Option.isSome_none, List.append_nil] at S4 ⊢
  have sl := S4.sl
  have ln := sl.1
  obtain rfl : l = 1 := by simp [u8s] at ln; omega
  refine ifT rfl (ifT rfl ?_)
  refine ixV (i := 0) (n := 0) (w := .int .u8 1) sl rfl rfl fun q eq cq => ?_
  simp only [rdN cq]
  refine ifT rfl (awakeS S4 fun h2 S5 => ⟨_, rfl, hK h2 ?_⟩)
  exact S5.to

theorem owtOne {s : SV} {f : PF} (ht : f.t = []) (S : St (Ow 5 s (fcells (f, (none, 0, 0))) :: L) h) : St (OwT s [f] :: L) h := by
  have S1 : St (Tbs (fun _ => False) [(none, 0, 0)] [f] :: Ow 5 s (fcells (f, (none, 0, 0))) :: L) h := S.sh_sub0 (fun b x => x) fun h => ⟨rfl, 1, fun i g t e1 e2 => by
    rcases i with _ | i
    · simp only [List.getElem?_cons_zero, Option.some.injEq] at e1 e2
      subst e1; subst e2
      rw [ht]
      exact ⟨Nat.zero_le _, rfl, rfl⟩
    · simp at e1⟩
  refine St.ex' ([(none, 0, 0)], fun _ => False) (St.join ?_)
  simpa using S1.p1

theorem MethAsks.law (a : Int) (wa : -9223372036854775808 ≤ a ∧ a < 9223372036854775808) (sn : SV) (xn : List Int) (ln : Sl 1 h sn.1 sn.2.1 (xn.map fun n => .int .u64 n)) (le1 : sn.2.1 ≤ sn.2.2) (mx1 : sn.2.2 ≤ maxLen) (wn : ∀ x ∈ xn, (Lit.int .u64 x).wf = true)
    (ss : SV) (xs : List Oct) (ls : Sl 1 h ss.1 ss.2.1 (xs.map fun l => .string (mkS l))) (le2 : ss.2.1 ≤ ss.2.2) (mx2 : ss.2.2 ≤ maxLen) (ws : ∀ x ∈ xs, x.length ≤ maxLen) (f : Int) (wf : -9223372036854775808 ≤ f ∧ f < 9223372036854775808) (k : Int) (wk : -9223372036854775808 ≤ k ∧ k < 9223372036854775808) :
    CallsH P F.waybilllaw4_MethAsks [.int .i64 a, sn.v, ss.v, .int .i64 f, .int .i64 k] (fun v h' => v = .bool true ∧ Kept h h') h := by
  refine waybilllaw4_MethAsks.ok ?_
  unfold waybilllaw4_MethAsks.p0
  have fin : ∀ {L : List Asr} {h1 : Heap}, St L h1 → Old h ∈ L → CallsH P F.waybilllaw4_awake [] (fun v h' => ∃ b, v = .bool b ∧ (Value.bool b = .bool true ∧ Kept h h')) h1 := fun S m => awakeS S fun h' S' => ⟨_, rfl, rfl, S'.keptOld m⟩
  by_cases hl : ss.2.1 > 30
  · exact ifT (by simp; omega) (fin (St.old h) (List.mem_cons_self ..))
  refine ifF (by simp; omega) ?_
  have en : (xn.map fun n : Int => Value.int .u64 n) = nums (xn.map Int.toNat) := by
    unfold nums
    rw [List.map_map]
    refine List.map_congr_left fun x hx => ?_
    have := wf_u64 (wn x hx)
    simp only [Function.comp]
    congr 1
    omega
  rw [en] at ln
  have hn : ∀ v ∈ xn.map Int.toNat, v < 18446744073709551616 := by
    intro v hv
    obtain ⟨x, hx, rfl⟩ := List.mem_map.1 hv
    have := wf_u64 (wn x hx)
    omega
  generalize xn.map Int.toNat = n at *
  have S0 : St [Im 1 sn (nums n), Im 1 ss (strs xs), Tb (fun _ => False) (none, 0, 0) [], Old h] h := ((tbNil 0 (St.old h)).imOld (by simp) ls le2).imOld (by simp) ln le1
  have hT : ∀ {L' : List Asr} {K : KT} {h : Heap}, St L' h → Tb (fun _ => False) (none, 0, 0) [] ∈ L' → (∀ h', St L' h' → K (.bool true) h') → CallsH P F.waybillref1_TableOk [.slice none 0 0] K h := fun S m hK => tableOkNil S hK
  refine madeS (B0 := fun _ => False) (tok := true) (t := (none, 0, 0)) (tt := []) S0 hn hT fun y B h1 S1 => ⟨_, rfl, ?_⟩
  have hf := madeC_form a
  have hg := madeC_good a
  have hr := madeC_rng a
  have ct := madeF_cnt n xs f [] true (madeC a).2
  have c64 := madeF_N64 n hn xs f [] true (madeC a).2
  have hlen := madeF_len n xs f [] true (madeC a).2
  have hTe : (madeF n xs f [] true (madeC a).2).T = [] := by rw [madeF_T]; split <;> rfl
  generalize madeC a = C at *
  obtain ⟨⟨ca, cb⟩, form⟩ := C
  simp only at *
  generalize madeF n xs f [] true form = x at *
  have hx : x.N.length < 16 ∧ x.S.length < 16 ∧ x.F.length < 16 := by have := hg.2; omega
  have S2 := S1.al (mcells 0 0 mnil) T.api_Method
  simp only [bd]
  have eh : al h1 #[.int .i64 0, .int .i64 0, .slice none 0 0, .slice none 0 0, .slice none 0 0, .slice none 0 0] T.api_Method = al h1 (mcells 0 0 mnil).toArray T.api_Method := rfl
  rw [eh]
  refine ⟨rfl, S2.putA (top h1) (ws := mcells ca cb y) rfl (by intro w hw; simp [mcells] at hw; rcases hw with rfl | rfl | rfl | rfl | rfl | rfl <;> rfl) fun h3 S3 => ?_⟩
  generalize top h1 = m at *
  simp only [rdN (S3.rc m 0 rfl), rdN (S3.rc m 1 rfl)]
  refine refForm.spec ⟨_, _, rfl, ?_⟩
  rw [hf]
  simp only [Option.getD_some]
  have old : ∀ h', St (Im 1 sn (nums n) :: Im 1 ss (strs xs) :: Tb (fun _ => False) (none, 0, 0) [] :: [Old h]) h' → (Value.bool true = .bool true ∧ Kept h h') := fun h' S' => ⟨rfl, S'.keptOld (by simp)⟩
  have smx : ∀ N S F T, N.length < 40 → S.length < 40 → F.length < 40 → T.length < 40 → (∀ v ∈ N, v < 18446744073709551616) → (∀ v ∈ S, v.length ≤ 255) → smallP 8 T → smallM ⟨N, S, F, T⟩ := by
    intro N S F T h1 h2 h3 h4 h5 h6 h7
    exact ⟨by simp; omega, h5, by simp; omega, fun s hs => by have := h6 s hs; omega, by simp; omega, h7, by simp; omega⟩
  have j1i : ∀ {x' : PM} {y' : MV} {B' : Nat → Prop} {h' : Heap}, St (Bx m (mcells ca cb y') :: Im 1 y'.n (nums x'.N) :: Im 1 y'.s (strs x'.S) :: Im 1 y'.f (bools x'.F) :: Tb B' y'.t x'.T :: Im 1 sn (nums n) :: Im 1 ss (strs xs) :: Tb (fun _ => False) (none, 0, 0) [] :: [Old h]) h' → smallM x' → methW ca cb x' = none → waybilllaw4_MethAsks.j1 (fun v h' => v = .bool true ∧ Kept h h') m h' := fun S' sx no => asks_j1 S' sx no (by omega) (by omega) old
  have j1 : ∀ {x' : PM} {h' : Heap}, St (MB m ca cb x' :: Im 1 sn (nums n) :: Im 1 ss (strs xs) :: Tb (fun _ => False) (none, 0, 0) [] :: [Old h]) h' → smallM x' → methW ca cb x' = none → waybilllaw4_MethAsks.j1 (fun v h' => v = .bool true ∧ Kept h h') m h' := by
    intro x' h' S' sx no
    obtain ⟨y', B', S'⟩ := MB.op S'
    exact j1i (y' := y') (B' := B') (((S'.fz 1 y'.n).fz 1 y'.s).fz 1 y'.f).to sx no
  have no : ∀ {x' : PM}, (x'.N.length = x.N.length ∧ x'.S.length = x.S.length ∧ x'.F.length = x.F.length → False) → methW ca cb x' = none := by
    intro x' hne
    cases e : methW ca cb x' with
    | none => rfl
    | some o =>
      have := methW_cnt hf (x := x') (by rw [e]; simp)
      exact (hne ⟨by omega, by omega, by omega⟩).elim
  rw [m7]
  try simp only [bd]
  have dn : ∀ {r : Int}, k % 8 ≠ r → (k % 8 == r) = false := fun e => by simp [e]
  have lS : y.s.2.1 = x.S.length := by have := (S3.ows 1 y.s).1; simp only [strs, List.length_map, Nat.mul_one] at this; omega
  have lN : y.n.2.1 = x.N.length := by have := (S3.ows 1 y.n).1; simp only [nums, List.length_map, Nat.mul_one] at this; omega
  have lF : y.f.2.1 = x.F.length := by have := (S3.ows 1 y.f).1; simp only [bools, List.length_map, Nat.mul_one] at this; omega
  by_cases k0 : k % 8 = 0
  · refine ifT (by rw [k0]; rfl) ?_
    simp only [rdS (S3.rc m 2 rfl)]
    refine St.push1 sl_uint64 S3 m 2 y.n rfl (by simp) (by omega) (by omega) fun p cc h2 S4 => j1 (MB.cl (x := ⟨x.N ++ [1], x.S, x.F, x.T⟩) ⟨(p, y.n.2.1 + 1, cc), y.s, y.f, y.t⟩ B ?_) ?_ (no (by simp))
    · have e : nums x.N ++ [.int .u64 1] = nums (x.N ++ [1]) := by simp [nums]
      simp only [e, List.set_cons_succ, List.set_cons_zero] at S4
      exact S4.to
    · refine smx _ _ _ _ (by simp; omega) (by omega) (by omega) (by rw [hTe]; decide) ?_ c64.2 (by rw [hTe]; intro f hf; cases hf)
      intro v hv
      simp only [List.mem_append, List.mem_singleton] at hv
      rcases hv with hv | rfl
      · exact c64.1 v hv
      · decide
  refine ifF (dn k0) ?_
  by_cases k1 : k % 8 = 1
  · refine ifT (by rw [k1]; rfl) ?_
    simp only [rdS (S3.rc m 3 rfl)]
    refine St.push1 sl_string S3 m 3 y.s rfl (by simp) (by omega) (by omega) fun p cc h2 S4 => j1 (MB.cl (x := ⟨x.N, x.S ++ [[120]], x.F, x.T⟩) ⟨y.n, (p, y.s.2.1 + 1, cc), y.f, y.t⟩ B ?_) ?_ (no (by simp))
    · have e : strs x.S ++ [.string (mkS [120])] = strs (x.S ++ [[120]]) := by simp [strs]
      simp only [e, List.set_cons_succ, List.set_cons_zero] at S4
      exact S4.to
    · refine smx _ _ _ _ (by omega) (by simp; omega) (by omega) (by rw [hTe]; decide) c64.1 ?_ (by rw [hTe]; intro f hf; cases hf)
      intro v hv
      simp only [List.mem_append, List.mem_singleton] at hv
      rcases hv with hv | rfl
      · exact c64.2 v hv
      · decide
  refine ifF (dn k1) ?_
  by_cases k2 : k % 8 = 2
  · refine ifT (by rw [k2]; rfl) ?_
    simp only [rdS (S3.rc m 4 rfl)]
    refine St.push1 sl_bool S3 m 4 y.f rfl (by simp) (by omega) (by omega) fun p cc h2 S4 => j1 (MB.cl (x := ⟨x.N, x.S, x.F ++ [true], x.T⟩) ⟨y.n, y.s, (p, y.f.2.1 + 1, cc), y.t⟩ B ?_) ?_ (no (by simp))
    · have e : bools x.F ++ [.bool true] = bools (x.F ++ [true]) := by simp [bools]
      simp only [e, List.set_cons_succ, List.set_cons_zero] at S4
      exact S4.to
    · exact smx _ _ _ _ (by omega) (by omega) (by simp; omega) (by rw [hTe]; decide) c64.1 c64.2 (by rw [hTe]; intro f hf; cases hf)
  refine ifF (dn k2) ?_
  by_cases k3 : k % 8 = 3
  · refine ifT (by rw [k3]; rfl) ?_
    simp only [rdS (S3.rc m 2 rfl)]
    by_cases z : y.n.2.1 = 0
    · exact ifT (by rw [z]; rfl) (fin S3 (by simp))
    refine ifF (by simp; omega) ⟨⟨by omega, by omega⟩, ?_⟩
    rw [show Int.toNat 1 = 1 from rfl]
    refine S3.put1 m 2 (by simp) rfl fun h4 S4 => ?_
    simp only [List.set_cons_succ, List.set_cons_zero] at S4
    have S5 := ((((S4.fz 1 y.n).idrop y.n (n := 1) (by omega)).fz 1 y.s).fz 1 y.f)
    have e : (nums x.N).drop 1 = nums (x.N.drop 1) := by simp [nums, List.map_drop]
    rw [e] at S5
    refine j1i (y' := ⟨(slA y.n.1 1 y.n.2.2 1, y.n.2.1 - 1, y.n.2.2 - 1), y.s, y.f, y.t⟩) (x' := ⟨x.N.drop 1, x.S, x.F, x.T⟩) (B' := B) S5.to ?_ (no (by simp; omega))
    exact smx _ _ _ _ (by simp; omega) (by omega) (by omega) (by rw [hTe]; decide) (fun v hv => c64.1 v (List.mem_of_mem_drop hv)) c64.2 (by rw [hTe]; intro f hf; cases hf)
  refine ifF (dn k3) ?_
  by_cases k4 : k % 8 = 4
  · refine ifT (by rw [k4]; rfl) ?_
    simp only [rdS (S3.rc m 3 rfl)]
    by_cases z : y.s.2.1 = 0
    · exact ifT (by rw [z]; rfl) (fin S3 (by simp))
    refine ifF (by simp; omega) ⟨⟨by omega, by omega⟩, ?_⟩
    rw [show Int.toNat 1 = 1 from rfl]
    refine S3.put1 m 3 (by simp) rfl fun h4 S4 => ?_
    simp only [List.set_cons_succ, List.set_cons_zero] at S4
    have S5 := ((((S4.fz 1 y.s).idrop y.s (n := 1) (by omega)).fz 1 y.n).fz 1 y.f)
    have e : (strs x.S).drop 1 = strs (x.S.drop 1) := by simp [strs, List.map_drop]
    rw [e] at S5
    refine j1i (y' := ⟨y.n, (slA y.s.1 1 y.s.2.2 1, y.s.2.1 - 1, y.s.2.2 - 1), y.f, y.t⟩) (x' := ⟨x.N, x.S.drop 1, x.F, x.T⟩) (B' := B) S5.to ?_ (no (by simp; omega))
    exact smx _ _ _ _ (by omega) (by simp; omega) (by omega) (by rw [hTe]; decide) c64.1 (fun v hv => c64.2 v (List.mem_of_mem_drop hv)) (by rw [hTe]; intro f hf; cases hf)
  refine ifF (dn k4) ?_
  by_cases k5 : k % 8 = 5
  · refine ifT (by rw [k5]; rfl) ?_
    simp only [rdS (S3.rc m 4 rfl)]
    by_cases z : y.f.2.1 = 0
    · exact ifT (by rw [z]; rfl) (fin S3 (by simp))
    refine ifF (by simp; omega) ⟨⟨by omega, by omega⟩, ?_⟩
    rw [show Int.toNat 1 = 1 from rfl]
    refine S3.put1 m 4 (by simp) rfl fun h4 S4 => ?_
    simp only [List.set_cons_succ, List.set_cons_zero] at S4
    have S5 := ((((S4.fz 1 y.f).idrop y.f (n := 1) (by omega)).fz 1 y.n).fz 1 y.s)
    have e : (bools x.F).drop 1 = bools (x.F.drop 1) := by simp [bools, List.map_drop]
    rw [e] at S5
    refine j1i (y' := ⟨y.n, y.s, (slA y.f.1 1 y.f.2.2 1, y.f.2.1 - 1, y.f.2.2 - 1), y.t⟩) (x' := ⟨x.N, x.S, x.F.drop 1, x.T⟩) (B' := B) S5.to ?_ (no (by simp; omega))
    exact smx _ _ _ _ (by omega) (by omega) (by simp; omega) (by rw [hTe]; decide) c64.1 c64.2 (by rw [hTe]; intro f hf; cases hf)
  refine ifF (dn k5) ?_
  by_cases k6 : k % 8 = 6
  · refine ifT (by rw [k6]; rfl) ?_
    have j2t : waybilllaw4_MethAsks.j2 (fun v h' => v = .bool true ∧ Kept h h') m true h3 := by
      unfold waybilllaw4_MethAsks.j2
      exact ifT rfl (fin S3 (by simp))
    by_cases z : form = []
    · subst z; exact ifT' rfl j2t
    obtain ⟨c, r, rfl⟩ := List.exists_cons_of_ne_nil z
    refine ifF' (by rw [beq_eq_false_iff_ne, List.length_cons]; omega) ⟨by decide, by rw [List.length_cons]; omega, ?_⟩
    by_cases ec : c = 50
    · subst ec
      rw [show (lb (50 :: r) 0 != 50) = false from rfl]
      have h1n : 1 ≤ x.N.length := by have := ct.1; simp only [List.countP_cons] at this; simp [isN] at this; omega
      unfold waybilllaw4_MethAsks.j2
      refine ifF rfl ?_
      have S4 := S3.al [.int .u64 65536] T.uint64
      simp only [bd, rdS (S4.rc m 2 rfl), show Int.toNat 1 = 1 from rfl]
      refine ⟨⟨by omega, by omega⟩, ?_⟩
      have S5 := (S4.fz 1 y.n).idrop y.n (n := 1) (by omega)
      have e : (nums x.N).drop 1 = nums (x.N.drop 1) := by simp [nums, List.map_drop]
      rw [e] at S5
      have S6 := (S5.p2.bxOw (sz := 1) (n := 1) rfl)
      refine S6.app sl_uint64 rfl u_sl64 (fun k e => by cases e) (Src.slice (n := y.n.2.1 - 1) (S6.p1.iml (List.mem_cons_self ..)).1 (fun w hw => by obtain ⟨v, _, rfl⟩ := List.mem_map.1 hw; rfl)) (by simp only; omega) (by simp only; omega) fun p cc h4 S7 => ⟨_, _, _, rfl, ?_⟩
      refine S7.put1 m 2 (by simp) rfl fun h5 S8 => ?_
      simp only [List.set_cons_succ, List.set_cons_zero] at S8
      have e2 : [Value.int .u64 65536] ++ nums (x.N.drop 1) = nums (65536 :: x.N.drop 1) := rfl
      rw [e2] at S8
      refine j1 (MB.cl (x := ⟨65536 :: x.N.drop 1, x.S, x.F, x.T⟩) ⟨(p, 1 + (y.n.2.1 - 1), cc), y.s, y.f, y.t⟩ B S8.to) ?_ ?_
      · refine smx _ _ _ _ (by simp; omega) (by omega) (by omega) (by rw [hTe]; decide) ?_ c64.2 (by rw [hTe]; intro f hf; cases hf)
        intro v hv
        rcases List.mem_cons.1 hv with rfl | hv
        · decide
        · exact c64.1 v (List.mem_of_mem_drop hv)
      · unfold methW
        rw [hf]
        simp [formW, flagsP, oneW]
    · refine (?_ : waybilllaw4_MethAsks.j2 _ m (lb (c :: r) 0 != 50) h3)
      have : (lb (c :: r) 0 != 50) = true := by
        have := eb8 c 50
        rw [decide_eq_false ec] at this
        show (!(((c.toNat : Nat) : Int) == 50)) = true
        rw [show ((50 : UInt8).toNat : Int) = 50 from rfl] at this
        rw [this]; rfl
      rw [this]
      exact j2t
  refine ifF (dn k6) ?_
  have j3 : form.countP isT = 0 → waybilllaw4_MethAsks.j3 (fun v h' => v = .bool true ∧ Kept h h') m h3 := by
    intro hT0
    unfold waybilllaw4_MethAsks.j3
    have S4 := S3.al [.string (mkS [120]), .int .u8 86, .int .i64 0, .string (mkS []), .slice none 0 0] T.api_Field
    refine ⟨_, bld_field _ _ _ _ _, ?_⟩
    simp only [bd]
    refine S4.put1 m 5 (by simp) rfl fun h4 S5 => ?_
    simp only [List.set_cons_succ, List.set_cons_zero] at S5
    have S6 := (S5.p1.bxOw (sz := 5) (n := 1) rfl)
    obtain ⟨B2, S7⟩ := owtTb (owtOne (f := .mk [120] 86 0 [] []) rfl S6)
    refine j1 (MB.cl (x := ⟨x.N, x.S, x.F, [.mk [120] 86 0 [] []]⟩) ⟨y.n, y.s, y.f, (some (top h3), 1, 1)⟩ B2 S7.to) ?_ ?_
    · refine smx _ _ _ _ (by omega) (by omega) (by omega) (by decide) c64.1 c64.2 ?_
      intro f hf
      simp only [List.mem_singleton] at hf
      subst hf
      refine ⟨by decide, by decide, fun g hg => by cases hg⟩
    · cases e : methW ca cb ⟨x.N, x.S, x.F, [.mk [120] 86 0 [] []]⟩ with
      | none => rfl
      | some o =>
        have := (methW_cnt hf (x := ⟨x.N, x.S, x.F, [.mk [120] 86 0 [] []]⟩) (by rw [e]; simp)).2.2.2 hT0
        cases this
  have loop : ∀ (fuel i : Nat), form.length - i < fuel → i ≤ form.length → (form.take i).countP isT = 0 → waybilllaw4_MethAsks.L4 (fun v h' => v = .bool true ∧ Kept h h') fuel m form i h3 := by
    intro fuel
    induction fuel with
    | zero => intro i hf; exact absurd hf (Nat.not_lt_zero _)
    | succ fuel ih =>
      intro i hf hi ht
      unfold waybilllaw4_MethAsks.L4
      by_cases hlt : i < form.length
      · refine ifT (by simp; omega) ⟨by omega, by omega, ?_⟩
        have e := lbq hlt 116
        rw [show ((116 : UInt8).toNat : Int) = 116 from rfl] at e
        rw [e]
        by_cases e116 : form[i] = 116
        · exact ifT (by simp [e116]) (fin S3 (by simp))
        · refine ifF (by simp [e116]) ?_
          simp only [bd]
          rw [wsucc (by have := hg.2; omega)]
          refine ih (i + 1) (by omega) (by omega) ?_
          rw [List.take_succ_eq_append_getElem hlt, List.countP_append, ht]
          simp [isT, e116]
      · refine ifF (by simp; omega) (j3 ?_)
        rw [List.take_of_length_le (by omega)] at ht
        exact ht
  exact ⟨_, loop _ 0 (Nat.lt_succ_self _) (Nat.zero_le _) rfl⟩
end
end Go.Proofs.Ytpfnfmlibpoleaa.Pr

/- ChansWrong over the heap: what stands where it can't is told by its code. -/
import Derived.Test.YtpfnfmlibpoleaaAwake24
import Derived.Test.YtpfnfmlibpoleaaPrLaw24Chanswrong
set_option linter.unusedVariables false
set_option linter.unusedSimpArgs false
namespace Go.Proofs.Ytpfnfmlibpoleaa.Pr
open Go Go.Lift Go.Proofs

/-- What waits. -/
def cwA (w : Nat) : CA := if w = 0 then ca0 else if w = 1 then pubC 1 [] [] false (0, 0, []) [] else pubC 2 [] [] false (3, 0, []) []
structure WR where
  k : Int
  bs : Oct
  c0 : Nat
  c1 : Nat
  c2 : Nat
  cl : Nat
  id : Nat
def wrows : List WR := [⟨1, [0, 90, 0, 20], 0, 505, 505, 90, 20⟩, ⟨1, [0, 60, 0, 41], 540, 505, 505, 60, 41⟩, ⟨1, [0, 60, 0, 40], 502, 505, 505, 60, 40⟩, ⟨1, [0, 7], 502, 505, 505, 7, 0⟩, ⟨2, [], 505, 502, 505, 0, 0⟩,
  ⟨2, [0, 60, 0, 0, 0, 0, 1, 0, 0, 0, 0, 0, 0, 0], 505, 311, 505, 0, 0⟩, ⟨3, [102, 111, 117, 114], 505, 505, 501, 0, 0⟩, ⟨8, [], 503, 503, 503, 0, 0⟩]
def wcode (r : WR) (w : Nat) : Nat := if w = 0 then r.c0 else if w = 1 then r.c1 else r.c2
def wcl (r : WR) (w : Nat) : Nat := if w = 0 then r.cl else 60
def wid (r : WR) (w : Nat) : Nat := if w = 0 then r.id else 40
def wchk (r : WR) (w : Nat) : Bool :=
  let z := frameR r.k r.bs (cwA w)
  decide (z.2.1 = wcode r w) && decide (z.2.2.w = 0) && (decide (z.2.1 = 0) == z.1.rd) && decide (z.1.m.1 = wcl r w) && decide (z.1.m.2.1 = wid r w) && decide (z.1.m.2.2.N = []) && decide (z.1.m.2.2.S = []) && decide (z.1.m.2.2.F = []) && decide (z.1.body = [])
theorem wchk_all : ∀ r ∈ wrows, ∀ w, w < 3 → wchk r w = true := by decide +kernel

theorem bld_wr' : (fun (k c s c0 c1 c2 : Value) (cl id : Int) => Instr.fill (Lift.places P (P.underlying T.struct_f_api_Frame_code_3_int_class_int_id_int)) (zcl P T.struct_f_api_Frame_code_3_int_class_int_id_int) [(0, .agg #[k, c, s]), (1, .agg #[c0, c1, c2]), (2, .int .i64 cl), (3, .int .i64 id)]) = fun k c s c0 c1 c2 cl id => some (List.toArray [k, c, s, c0, c1, c2, .int .i64 cl, .int .i64 id]) := by kernel_rfl
theorem bld_wr (k c s c0 c1 c2 : Value) (cl id : Int) : bld P T.struct_f_api_Frame_code_3_int_class_int_id_int [(0, .agg #[k, c, s]), (1, .agg #[c0, c1, c2]), (2, .int .i64 cl), (3, .int .i64 id)] [k, c, s, c0, c1, c2, .int .i64 cl, .int .i64 id] :=
  congrFun (congrFun (congrFun (congrFun (congrFun (congrFun (congrFun (congrFun bld_wr' k) c) s) c0) c1) c2) cl) id
def rcells (x : WR × SV) : List Value := [.int .i64 x.1.k, .int .i64 0, x.2.v, .int .i64 (x.1.c0 : Int), .int .i64 (x.1.c1 : Int), .int .i64 (x.1.c2 : Int), .int .i64 (x.1.cl : Int), .int .i64 (x.1.id : Int)]
theorem rcells_len (x : WR × SV) : (rcells x).length = 8 := rfl
theorem bld_ws' : (fun s0 s1 s2 s3 s5 s6 : Value => Instr.fill (Lift.places P (P.underlying T.sl_struct_f_api_Frame_code_3_int_class_int_id_int)) (zrow (zcl P T.struct_f_api_Frame_code_3_int_class_int_id_int).toList 8 (P.cellsOf T.struct_f_api_Frame_code_3_int_class_int_id_int)).toArray
    [(0, .agg (List.toArray [.int .i64 1, .int .i64 0, s0, .int .i64 0, .int .i64 505, .int .i64 505, .int .i64 90, .int .i64 20])), (1, .agg (List.toArray [.int .i64 1, .int .i64 0, s1, .int .i64 540, .int .i64 505, .int .i64 505, .int .i64 60, .int .i64 41])),
     (2, .agg (List.toArray [.int .i64 1, .int .i64 0, s2, .int .i64 502, .int .i64 505, .int .i64 505, .int .i64 60, .int .i64 40])), (3, .agg (List.toArray [.int .i64 1, .int .i64 0, s3, .int .i64 502, .int .i64 505, .int .i64 505, .int .i64 7, .int .i64 0])),
     (4, .agg (List.toArray [.int .i64 2, .int .i64 0, .slice none 0 0, .int .i64 505, .int .i64 502, .int .i64 505, .int .i64 0, .int .i64 0])), (5, .agg (List.toArray [.int .i64 2, .int .i64 0, s5, .int .i64 505, .int .i64 311, .int .i64 505, .int .i64 0, .int .i64 0])),
     (6, .agg (List.toArray [.int .i64 3, .int .i64 0, s6, .int .i64 505, .int .i64 505, .int .i64 501, .int .i64 0, .int .i64 0])), (7, .agg (List.toArray [.int .i64 8, .int .i64 0, .slice none 0 0, .int .i64 503, .int .i64 503, .int .i64 503, .int .i64 0, .int .i64 0]))]) =
    fun s0 s1 s2 s3 s5 s6 => some (List.toArray [.int .i64 1, .int .i64 0, s0, .int .i64 0, .int .i64 505, .int .i64 505, .int .i64 90, .int .i64 20, .int .i64 1, .int .i64 0, s1, .int .i64 540, .int .i64 505, .int .i64 505, .int .i64 60, .int .i64 41,
     .int .i64 1, .int .i64 0, s2, .int .i64 502, .int .i64 505, .int .i64 505, .int .i64 60, .int .i64 40, .int .i64 1, .int .i64 0, s3, .int .i64 502, .int .i64 505, .int .i64 505, .int .i64 7, .int .i64 0,
     .int .i64 2, .int .i64 0, .slice none 0 0, .int .i64 505, .int .i64 502, .int .i64 505, .int .i64 0, .int .i64 0, .int .i64 2, .int .i64 0, s5, .int .i64 505, .int .i64 311, .int .i64 505, .int .i64 0, .int .i64 0,
     .int .i64 3, .int .i64 0, s6, .int .i64 505, .int .i64 505, .int .i64 501, .int .i64 0, .int .i64 0, .int .i64 8, .int .i64 0, .slice none 0 0, .int .i64 503, .int .i64 503, .int .i64 503, .int .i64 0, .int .i64 0]) := by kernel_rfl

section
variable {K : KT} {L R : List Asr} {h : Heap}

theorem Sl.len' {h : Heap} {p : OA} {l : Nat} {vs : List Value} (o : Sl 1 h p l vs) : l = vs.length := by have := o.1; omega

theorem wrong_j4 {a x : Addr} {w : Nat} {r : WR} {s : SV} (S : St (Bx x [.int .i64 r.k, .int .i64 0, s.v, .int .i64 (r.c0 : Int), .int .i64 (r.c1 : Int), .int .i64 (r.c2 : Int), .int .i64 (wcl r w : Int), .int .i64 (wid r w : Int)] :: AsmA a (cwA w) :: Im 1 s (u8s r.bs) :: L) h)
    (hw : w < 3) (hb : r.bs.length < 1000) (hc : wchk r w = true) (hK : ∀ h', St L h' → K (.bool true) h') : waybilllaw24_ChansWrong.j4 K (some a) w x h := by
  unfold waybilllaw24_ChansWrong.j4
  have eh : ∀ h, al h #[.bool false, .int .i64 0, .int .i64 0, .slice none 0 0, .slice none 0 0, .slice none 0 0, .slice none 0 0, .int .u64 0, .int .i64 0, .string (mkS ([] : List UInt8)), .slice none 0 0] T.api_Ask = al h zeros.toArray T.api_Ask := fun _ => rfl
  simp only [bd, eh]
  refine S.rdP 0 (n := 3) (by show 3 ≤ 8; omega) ?_
  have hcw : (cwA w).body.length < 1099511627776 ∧ ((cwA w).w = 2 → (cwA w).hd.1 < 1099511627776) := by
    unfold cwA
    split
    · exact ⟨by decide, by decide⟩
    · split
      · exact ⟨by simp, by simp⟩
      · exact ⟨by simp, by simp⟩
  refine frameS (a := a) (c := cwA w) (kind := r.k) (ch := 0) (s := s) (bs := r.bs) S (by omega) hcw.1 hcw.2 ?_
  unfold wchk at hc
  simp only [Bool.and_eq_true, decide_eq_true_eq, beq_iff_eq] at hc
  generalize frameR r.k r.bs (cwA w) = z at *
  obtain ⟨⟨⟨⟨⟨⟨⟨⟨z1, z2⟩, z3⟩, z4⟩, z5⟩, z6⟩, z7⟩, z8⟩, z9⟩ := hc
  intro y B bv h1 S1
  rw [z6, z7, z8, z9] at S1
  refine ⟨_, _, rfl, keepS S1 fun h2 S2 => ⟨by omega, by omega, ?_⟩⟩
  generalize top h1 = yb at *
  rw [add_add (S2.get (Bx x)).sp]
  have ec : hcell h2 (x.add (3 + Int.toNat (w : Int) * 1)) = some (.int .i64 (wcode r w : Int)) := by
    unfold wcode
    rcases w with _ | _ | _ | w
    · exact S2.rc x 3 rfl
    · exact S2.rc x 4 rfl
    · exact S2.rc x 5 rfl
    · omega
  simp only [rdN ec]
  refine ifF' (by rw [z1]; simp) (waitsS (a := a) (c := z.2.2) S2 ⟨_, rfl, ?_⟩)
  rw [decide_eq_false (by rw [z2]; simp)]
  unfold waybilllaw24_ChansWrong.j5
  refine ifF rfl ?_
  have ln := Sl.len' (S2.isl 1 y.n)
  have ls := Sl.len' (S2.isl 1 y.s)
  have lf := Sl.len' (S2.isl 1 y.f)
  have lb := Sl.len' (S2.isl 1 bv)
  simp only [nums, strs, bools, u8s, List.map_nil, List.length_nil] at ln ls lf lb
  simp only [add_add (S2.get (Bx yb)).sp, Nat.reduceAdd, rdB (S2.rc yb 0 rfl), rdN (S2.rc yb 1 rfl), rdN (S2.rc yb 2 rfl), rdS (S2.rc yb 3 rfl), rdS (S2.rc yb 4 rfl), rdS (S2.rc yb 5 rfl), rdS (S2.rc yb 10 rfl), rdN (S2.rc x 6 rfl), rdN (S2.rc x 7 rfl)]
  refine ifT ?_ (ifT ?_ (ifT ?_ (ifT ?_ ?_)))
  · rw [← z3, beq_iff_eq, Bool.eq_iff_iff, beq_iff_eq, decide_eq_true_eq]; omega
  · rw [z4]; exact beq_self_eq_true _
  · rw [z5]; exact beq_self_eq_true _
  · rw [ln, ls, lf]; rfl
  · rw [lb]
    exact hK h2 S2.to

theorem wrong_fin {K : KT} {L : List Asr} {a o : Addr} {w i : Nat} {cells : List Value} {h : Heap} {r : WR} {s : SV} (hw : w < 3) (hi : i < 8) (hr : wrows[i]? = some r) (S : St (Bx o cells :: AsmA a (cwA w) :: Im 1 s (u8s r.bs) :: L) h) (hcl : cells.length = 64) (hcs : (cells.drop (i * 8)).take 8 = rcells (r, s))
    (hK : ∀ h', St L h' → K (.bool true) h') :
    ∃ cs38, rdC h (o.add (i * 8)) 0 8 = some cs38 ∧ cs38.length = 8 ∧ ∃ h40, stC (al h #[.int .i64 0, .int .i64 0, .slice none 0 0, .int .i64 0, .int .i64 0, .int .i64 0, .int .i64 0, .int .i64 0] T.struct_f_api_Frame_code_3_int_class_int_id_int) (top h) 0 cs38 = some h40 ∧
      ((decide ((w : Int) > 0)) = true → ∃ h62, stC h40 (Addr.add (top h) 6) 0 [.int .i64 60] = some h62 ∧ ∃ h63, stC h62 (Addr.add (top h) 7) 0 [.int .i64 40] = some h63 ∧ waybilllaw24_ChansWrong.j4 K (some a) w (top h) h63) ∧ ((decide ((w : Int) > 0)) = false → waybilllaw24_ChansWrong.j4 K (some a) w (top h) h40) := by
  have hmem : r ∈ wrows := List.mem_of_getElem? hr
  have hchk := wchk_all r hmem w hw
  have hbl : r.bs.length < 1000 := by
    have : ∀ r ∈ wrows, r.bs.length < 1000 := by decide
    exact this r hmem
  refine S.rdP (i * 8) (n := 8) (by omega) ?_
  rw [hcs]
  have S1 := S.al [.int .i64 0, .int .i64 0, .slice none 0 0, .int .i64 0, .int .i64 0, .int .i64 0, .int .i64 0, .int .i64 0] T.struct_f_api_Frame_code_3_int_class_int_id_int
  refine ⟨rfl, S1.putA (top h) rfl (by simp [one, rcells]) fun h1 S2 => ?_⟩
  generalize top h = x at *
  unfold rcells at S2
  simp only at S2
  by_cases h0 : w = 0
  · subst h0
    refine ifF (by decide) (wrong_j4 (r := r) (s := s) (w := 0) (L := L) ?_ hw hbl hchk hK)
    have e1 : wcl r 0 = r.cl := rfl
    have e2 : wid r 0 = r.id := rfl
    rw [e1, e2]
    exact S2.to
  · refine ifT (by simp; omega) (S2.put1 x 6 (by simp) rfl fun h2 S3 => ?_)
    simp only [List.set_cons_succ, List.set_cons_zero] at S3
    refine S3.put1 x 7 (by simp) rfl fun h3 S4 => ?_
    simp only [List.set_cons_succ, List.set_cons_zero] at S4
    refine wrong_j4 (r := r) (s := s) (w := w) (L := L) ?_ hw hbl hchk hK
    have e1 : wcl r w = 60 := by unfold wcl; rw [if_neg h0]
    have e2 : wid r w = 40 := by unfold wid; rw [if_neg h0]
    rw [e1, e2]
    exact S4.to

def wrcells (s0 s1 s2 s3 s5 s6 : SV) : List Value := rcells (⟨1, [0, 90, 0, 20], 0, 505, 505, 90, 20⟩, s0) ++ rcells (⟨1, [0, 60, 0, 41], 540, 505, 505, 60, 41⟩, s1) ++ rcells (⟨1, [0, 60, 0, 40], 502, 505, 505, 60, 40⟩, s2) ++ rcells (⟨1, [0, 7], 502, 505, 505, 7, 0⟩, s3) ++ rcells (⟨2, [], 505, 502, 505, 0, 0⟩, nosv) ++
  rcells (⟨2, [0, 60, 0, 0, 0, 0, 1, 0, 0, 0, 0, 0, 0, 0], 505, 311, 505, 0, 0⟩, s5) ++ rcells (⟨3, [102, 111, 117, 114], 505, 505, 501, 0, 0⟩, s6) ++ rcells (⟨8, [], 503, 503, 503, 0, 0⟩, nosv)

theorem wr_1 : methW 60 40 (pubM [] [] false) = some [0, 60, 0, 40, 0, 0, 0, 0, 0] := by decide +kernel
theorem wr_2 : methW 90 20 noM = some [0, 90, 0, 20] := by decide +kernel
theorem wr_3 : frameR 1 [0, 60, 0, 40, 0, 0, 0, 0, 0] ca0 = (ak0, 0, cwA 1) := by kernel_rfl
theorem wr_4 : headW (3, 0, []) = [0, 60, 0, 0, 0, 0, 0, 0, 0, 0, 0, 3, 0, 0] := by decide +kernel
theorem wr_5 : frameR 2 [0, 60, 0, 0, 0, 0, 0, 0, 0, 0, 0, 3, 0, 0] (cwA 1) = (ak0, 0, cwA 2) := by kernel_rfl
theorem wr_6 : headW (1099511627776, 0, []) = [0, 60, 0, 0, 0, 0, 1, 0, 0, 0, 0, 0, 0, 0] := by decide +kernel

theorem ChansWrong.law (t0 : Int) (ha : -9223372036854775808 ≤ t0 ∧ t0 < 9223372036854775808) (t1 : Int) (hb : -9223372036854775808 ≤ t1 ∧ t1 < 9223372036854775808) (h : Heap) : CallsH P F.waybilllaw24_ChansWrong [.int .i64 t0, .int .i64 t1] (fun v h' => v = .bool true ∧ Kept h h') h := by
  refine waybilllaw24_ChansWrong.ok ?_
  unfold waybilllaw24_ChansWrong.p0
  refine newS (St.old h) fun h1 S1 => ⟨_, rfl, fun _ => ?_, fun e => by cases e⟩
  generalize top h = a at *
  refine awake24S S1 fun h2 S2 => ⟨_, rfl, ?_⟩
  clear S1
  unfold waybilllaw24_ChansWrong.j1
  refine ifF rfl ?_
  simp only [bd]
  have S4 : St (Im 1 (some (top h2), 1, 1) (nums [0]) :: _) (al h2 #[.int .u64 0] T.uint64) := S2.lit (nums [0]) T.uint64 1 rfl
  generalize al h2 #[.int .u64 0] T.uint64 = g1 at *
  have S4 : St (Im 1 (some (top g1), 2, 2) (strs [[], []]) :: _) (al g1 #[.string (mkS []), .string (mkS [])] T.string) := S4.lit (strs [[], []]) T.string 2 rfl
  generalize al g1 #[.string (mkS []), .string (mkS [])] T.string = g2 at *
  have S4 : St (Im 1 (some (top g2), 2, 2) (bools [false, false]) :: _) (al g2 #[.bool false, .bool false] T.bool) := S4.lit (bools [false, false]) T.bool 2 rfl
  generalize al g2 #[.bool false, .bool false] T.bool = g3 at *
  have sp := smallPub [] [] false (by decide) (by decide)
  refine rmethS (t := (none, 0, 0)) (bs := []) (y := ⟨(some (top h2), 1, 1), (some (top g1), 2, 2), (some (top g2), 2, 2), (none, 0, 0)⟩) (x := pubM [] [] false) (B := fun _ => False)
    (show St (Im 1 (none, 0, 0) (u8s []) :: Tb (fun _ => False) (none, 0, 0) [] :: _) g3 from (tbNil 0 S4).imNil 1 0) sp.1 sp.2.1 sp.2.2.1 sp.2.2.2 (by decide) fun p l c h4 S5 => ⟨_, _, _, _, rfl, ?_⟩
  rw [wr_1] at S5
  simp only [Option.getD_some, List.nil_append] at S5
  have S6 : St (AsmA a ca0 :: Im 1 (p, l, c) (u8s [0, 60, 0, 40, 0, 0, 0, 0, 0]) :: [Old h]) h4 := S5.to
  clear S5 S4 S2
  refine rmethS (t := (none, 0, 0)) (bs := []) (y := mnil) (x := noM) (B := fun _ => False)
    (show St (Im 1 (none, 0, 0) (u8s []) :: Im 1 (none, 0, 0) (nums []) :: Im 1 (none, 0, 0) (strs []) :: Im 1 (none, 0, 0) (bools []) :: Tb (fun _ => False) (none, 0, 0) [] :: _) h4 from (((((tbNil 0 S6).imNil 1 0).imNil 1 0).imNil 1 0).imNil 1 0)) (by simp [noM]) (by simp [noM]) (by simp [noM]) (by simp [noM, wtD]) (by decide) fun p9 l9 c9 h5 S7 => ⟨_, _, _, _, rfl, ?_⟩
  rw [wr_2] at S7
  simp only [Option.getD_some, List.nil_append] at S7
  have S8 : St (AsmA a ca0 :: Im 1 (p, l, c) (u8s [0, 60, 0, 40, 0, 0, 0, 0, 0]) :: Im 1 (p9, l9, c9) (u8s [0, 90, 0, 20]) :: [Old h]) h5 := S7.to
  clear S7 S6
  have e0 : Int.tmod (bitsI .and .i64 t1 255) (3 : Int) = (((t1 % 256).toNat % 3 : Nat) : Int) := by
    rw [m255, Int.tmod_eq_emod_of_nonneg (by omega)]; omega
  rw [e0]
  have hw : (t1 % 256).toNat % 3 < 3 := by omega
  generalize (t1 % 256).toNat % 3 = w at *
  refine ⟨by decide, ?_⟩
  have j3 : ∀ h', St (AsmA a (cwA w) :: Im 1 (p9, l9, c9) (u8s [0, 90, 0, 20]) :: [Old h]) h' → waybilllaw24_ChansWrong.j3 (fun v h' => v = .bool true ∧ Kept h h') t0 (some a) p9 l9 c9 w h' := by
    intro h' S
    unfold waybilllaw24_ChansWrong.j3
    refine ⟨_, bld_wr _ _ _ _ _ _ _ _, ?_⟩
    simp only [bd]
    have T1 : St (Im 1 (some (top h'), 4, 4) (u8s [0, 60, 0, 41]) :: _) (al h' #[.int .u8 0, .int .u8 60, .int .u8 0, .int .u8 41] T.uint8) := S.lit (u8s [0, 60, 0, 41]) T.uint8 4 rfl
    generalize al h' #[.int .u8 0, .int .u8 60, .int .u8 0, .int .u8 41] T.uint8 = g1 at *
    refine ⟨_, bld_wr _ _ _ _ _ _ _ _, ?_⟩
    have T2 : St (Im 1 (some (top g1), 4, 4) (u8s [0, 60, 0, 40]) :: _) (al g1 #[.int .u8 0, .int .u8 60, .int .u8 0, .int .u8 40] T.uint8) := T1.lit (u8s [0, 60, 0, 40]) T.uint8 4 rfl
    generalize al g1 #[.int .u8 0, .int .u8 60, .int .u8 0, .int .u8 40] T.uint8 = g2 at *
    refine ⟨_, bld_wr _ _ _ _ _ _ _ _, ?_⟩
    have T3 : St (Im 1 (some (top g2), 2, 2) (u8s [0, 7]) :: _) (al g2 #[.int .u8 0, .int .u8 7] T.uint8) := T2.lit (u8s [0, 7]) T.uint8 2 rfl
    generalize al g2 #[.int .u8 0, .int .u8 7] T.uint8 = g3 at *
    refine ⟨_, bld_wr _ _ _ _ _ _ _ _, _, bld_wr _ _ _ _ _ _ _ _, ?_⟩
    refine rheadS (t := (none, 0, 0)) (bs := []) (x := (1099511627776, 0, [])) (show St (Im 1 (none, 0, 0) (u8s []) :: _) g3 from T3.imNil 1 0) (by decide) (by decide) fun p5 l5 c5 g4 T4 => ⟨_, _, _, rfl, _, bld_wr _ _ _ _ _ _ _ _, ?_⟩
    rw [wr_6, List.nil_append] at T4
    refine bytesConst (bs := [102, 111, 117, 114]) (n := 4) rfl T4.im fun g5 T5 => ⟨_, _, _, rfl, _, bld_wr _ _ _ _ _ _ _ _, _, bld_wr _ _ _ _ _ _ _ _, ?_⟩
    refine ⟨wrcells (p9, l9, c9) (some (top h'), 4, 4) (some (top g1), 4, 4) (some (top g2), 2, 2) (p5, l5, c5) (some (top g4), 4, 4), congrFun (congrFun (congrFun (congrFun (congrFun (congrFun bld_ws' _) _) _) _) _) _, ?_⟩
    have T6 := (T5.im.imNil 1 0).al (wrcells (p9, l9, c9) (some (top h'), 4, 4) (some (top g1), 4, 4) (some (top g2), 2, 2) (p5, l5, c5) (some (top g4), 4, 4)) T.struct_f_api_Frame_code_3_int_class_int_id_int
    have e0 : Int.tmod (bitsI .and .i64 t0 255) (((8 : Nat) : Nat) : Int) = (((t0 % 256).toNat % 8 : Nat) : Int) := by
      rw [m255, Int.tmod_eq_emod_of_nonneg (by omega)]; omega
    rw [e0]
    have hi : (t0 % 256).toNat % 8 < 8 := by omega
    generalize (t0 % 256).toNat % 8 = i at *
    refine ⟨by decide, _, rfl, by omega, by omega, ?_⟩
    rw [Int.toNat_natCast]
    generalize al g5 _ _ = g6 at *
    generalize top g5 = o at *
    have row : ∃ (r : WR) (s : SV), wrows[i]? = some r ∧ ((wrcells (p9, l9, c9) (some (top h'), 4, 4) (some (top g1), 4, 4) (some (top g2), 2, 2) (p5, l5, c5) (some (top g4), 4, 4)).drop (i * 8)).take 8 = rcells (r, s) ∧
        St (Bx o (wrcells (p9, l9, c9) (some (top h'), 4, 4) (some (top g1), 4, 4) (some (top g2), 2, 2) (p5, l5, c5) (some (top g4), 4, 4)) :: AsmA a (cwA w) :: Im 1 s (u8s r.bs) :: [Old h]) g6 := by
      have T7 : St (Bx o (wrcells (p9, l9, c9) (some (top h'), 4, 4) (some (top g1), 4, 4) (some (top g2), 2, 2) (p5, l5, c5) (some (top g4), 4, 4)) :: Im 1 (none, 0, 0) (u8s []) :: Im 1 (some (top g4), 4, 4) (u8s [102, 111, 117, 114]) :: Im 1 (p5, l5, c5) (u8s [0, 60, 0, 0, 0, 0, 1, 0, 0, 0, 0, 0, 0, 0]) :: Im 1 (some (top g2), 2, 2) (u8s [0, 7]) ::
          Im 1 (some (top g1), 4, 4) (u8s [0, 60, 0, 40]) :: Im 1 (some (top h'), 4, 4) (u8s [0, 60, 0, 41]) :: AsmA a (cwA w) :: Im 1 (p9, l9, c9) (u8s [0, 90, 0, 20]) :: [Old h]) g6 := T6.to
      rcases i with _ | _ | _ | _ | _ | _ | _ | _ | i
      · exact ⟨_, (p9, l9, c9), rfl, rfl, T7.to⟩
      · exact ⟨_, (some (top h'), 4, 4), rfl, rfl, T7.to⟩
      · exact ⟨_, (some (top g1), 4, 4), rfl, rfl, T7.to⟩
      · exact ⟨_, (some (top g2), 2, 2), rfl, rfl, T7.to⟩
      · exact ⟨_, (none, 0, 0), rfl, rfl, T7.to⟩
      · exact ⟨_, (p5, l5, c5), rfl, rfl, T7.to⟩
      · exact ⟨_, (some (top g4), 4, 4), rfl, rfl, T7.to⟩
      · exact ⟨_, (none, 0, 0), rfl, rfl, T7.to⟩
      · omega
    obtain ⟨r, s, hr, hcs, T8⟩ := row
    exact wrong_fin hw hi hr T8 rfl hcs fun h' S' => ⟨rfl, S'.keptOld (List.mem_cons_self ..)⟩
  have j2 : ∀ h', St (AsmA a (if w = 0 then ca0 else cwA 1) :: Im 1 (p9, l9, c9) (u8s [0, 90, 0, 20]) :: [Old h]) h' → waybilllaw24_ChansWrong.j2 (fun v h' => v = .bool true ∧ Kept h h') t0 (some a) p9 l9 c9 w h' := by
    intro h' S
    unfold waybilllaw24_ChansWrong.j2
    by_cases h1 : w > 1
    · obtain rfl : w = 2 := by omega
      refine ifT (by decide) (rheadS (t := (none, 0, 0)) (bs := []) (x := (3, 0, [])) (show St (Im 1 (none, 0, 0) (u8s []) :: _) h' from S.imNil 1 0) (by decide) (by decide) fun p2 l2 c2 h7 S9 => ⟨_, _, _, rfl, ?_⟩)
      rw [wr_4, List.nil_append] at S9
      refine frameS (a := a) (c := cwA 1) (s := (p2, l2, c2)) (bs := [0, 60, 0, 0, 0, 0, 0, 0, 0, 0, 0, 3, 0, 0]) S9.im (by decide) (by decide) (by decide) ?_
      rw [wr_5]
      intro y B bv h8 S10
      exact ⟨_, _, rfl, j3 h8 S10.to⟩
    · refine ifF (by simp; omega) (j3 h' ?_)
      have : (if w = 0 then ca0 else cwA 1) = cwA w := by
        rcases w with _ | _ | w
        · rfl
        · rfl
        · omega
      rw [this] at S
      exact S
  by_cases h0 : w = 0
  · refine ifF (by simp; omega) (j2 h5 ?_)
    rw [if_pos h0]
    exact S8.to
  · refine ifT (by simp; omega) (frameS (a := a) (c := ca0) (s := (p, l, c)) (bs := [0, 60, 0, 40, 0, 0, 0, 0, 0]) S8 (by decide) (by decide) (by decide) ?_)
    rw [wr_3]
    intro y B bv h8 S10
    refine ⟨_, _, rfl, j2 h8 ?_⟩
    rw [if_neg h0]
    exact S10.to
end
end Go.Proofs.Ytpfnfmlibpoleaa.Pr

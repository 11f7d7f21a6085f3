/- What the machine asks of each type of the program. -/
import Derived.Test.YtnnmpdanfeejbaaProg
import Derived.Test.YtnnmpdanfeejbaaAbsEn
import Derived.KernelRfl
namespace Go.Proofs.Ytnnmpdanfeejbaa.Abs
open Go Go.Proofs
theorem mixed : Try.prog.follows .mixedOrders = true := by kernel_rfl
theorem ti2 : tiOf Try.prog 2 = some ⟨1, false, [], none, [Value.int IntKind.i64 0], some IntKind.i64, false, false, false, false⟩ := by kernel_rfl
theorem ti3 : tiOf Try.prog 3 = some ⟨1, false, [], none, [Value.int IntKind.i64 0], some IntKind.i64, false, false, false, false⟩ := by kernel_rfl
theorem ti4 : tiOf Try.prog 4 = some ⟨1, false, [], none, [Value.bool false], none, false, false, true, false⟩ := by kernel_rfl
theorem ti5 : tiOf Try.prog 5 = some ⟨1, false, [], none, [Value.int IntKind.u8 0], some IntKind.u8, false, false, false, false⟩ := by kernel_rfl
theorem ti6 : tiOf Try.prog 6 = some ⟨1, false, [], none, [Value.int IntKind.u8 0], some IntKind.u8, false, false, false, false⟩ := by kernel_rfl
theorem ti7 : tiOf Try.prog 7 = some ⟨4, true, [(0, 1), (1, 1), (2, 1), (3, 1)], none, [Value.int IntKind.i64 0, Value.int IntKind.i64 0, Value.bool false, Value.int IntKind.u8 0], none, false, false, false, false⟩ := by kernel_rfl
theorem ti8 : tiOf Try.prog 8 = some ⟨4, true, [(0, 1), (1, 1), (2, 1), (3, 1)], none, [Value.int IntKind.i64 0, Value.int IntKind.i64 0, Value.bool false, Value.int IntKind.u8 0], none, false, false, false, false⟩ := by kernel_rfl
theorem ti9 : tiOf Try.prog 9 = some ⟨1, false, [], none, [Value.string ⟨#[]⟩], none, true, false, false, false⟩ := by kernel_rfl
theorem ti10 : tiOf Try.prog 10 = some ⟨1, false, [], none, [Value.string ⟨#[]⟩], none, true, false, false, false⟩ := by kernel_rfl
theorem ti11 : tiOf Try.prog 11 = some ⟨1, false, [], none, [Value.string ⟨#[]⟩], none, true, false, false, false⟩ := by kernel_rfl
theorem ti12 : tiOf Try.prog 12 = some ⟨1, false, [], none, [Value.int IntKind.u64 0], some IntKind.u64, false, false, false, false⟩ := by kernel_rfl
theorem ti13 : tiOf Try.prog 13 = some ⟨2, true, [(0, 1), (1, 1)], none, [Value.string ⟨#[]⟩, Value.int IntKind.u64 0], none, false, false, false, false⟩ := by kernel_rfl
theorem ti14 : tiOf Try.prog 14 = some ⟨2, true, [(0, 1), (1, 1)], none, [Value.string ⟨#[]⟩, Value.int IntKind.u64 0], none, false, false, false, false⟩ := by kernel_rfl
theorem ti15 : tiOf Try.prog 15 = some ⟨1, false, [], none, [Value.pointer none], none, false, true, false, false⟩ := by kernel_rfl
theorem ti16 : tiOf Try.prog 16 = some ⟨1, false, [], none, [Value.pointer none], none, false, true, false, false⟩ := by kernel_rfl
theorem ti17 : tiOf Try.prog 17 = some ⟨1, false, [], none, [Value.pointer none], none, false, true, false, false⟩ := by kernel_rfl
theorem ti18 : tiOf Try.prog 18 = some ⟨1, true, [(0, 1)], none, [Value.pointer none], none, false, false, false, false⟩ := by kernel_rfl
theorem ti19 : tiOf Try.prog 19 = some ⟨1, true, [(0, 1)], none, [Value.pointer none], none, false, false, false, false⟩ := by kernel_rfl
theorem ti21 : tiOf Try.prog 21 = some ⟨1, false, [], none, [Value.int IntKind.i32 0], some IntKind.i32, false, false, false, false⟩ := by kernel_rfl
theorem ti22 : tiOf Try.prog 22 = some ⟨1, false, [], some (160, 1, 24), [Value.slice none 0 0], none, false, false, false, false⟩ := by kernel_rfl
theorem ti23 : tiOf Try.prog 23 = some ⟨1, false, [], some (135, 2, 32), [Value.slice none 0 0], none, false, false, false, false⟩ := by kernel_rfl
theorem ti24 : tiOf Try.prog 24 = some ⟨2, true, [(0, 1), (1, 1)], none, [Value.slice none 0 0, Value.slice none 0 0], none, false, false, false, false⟩ := by kernel_rfl
theorem ti25 : tiOf Try.prog 25 = some ⟨2, true, [(0, 1), (1, 1)], none, [Value.slice none 0 0, Value.slice none 0 0], none, false, false, false, false⟩ := by kernel_rfl
theorem ti26 : tiOf Try.prog 26 = some ⟨1, false, [], some (5, 1, 1), [Value.slice none 0 0], none, false, false, false, true⟩ := by kernel_rfl
theorem ti28 : tiOf Try.prog 28 = some ⟨1, false, [], some (155, 1, 24), [Value.slice none 0 0], none, false, false, false, false⟩ := by kernel_rfl
theorem ti29 : tiOf Try.prog 29 = some ⟨1, false, [], some (90, 2, 32), [Value.slice none 0 0], none, false, false, false, false⟩ := by kernel_rfl
theorem ti30 : tiOf Try.prog 30 = some ⟨2, true, [(0, 1), (1, 1)], none, [Value.slice none 0 0, Value.slice none 0 0], none, false, false, false, false⟩ := by kernel_rfl
theorem ti31 : tiOf Try.prog 31 = some ⟨2, true, [(0, 1), (1, 1)], none, [Value.slice none 0 0, Value.slice none 0 0], none, false, false, false, false⟩ := by kernel_rfl
theorem ti41 : tiOf Try.prog 41 = some ⟨1, false, [], some (9, 1, 16), [Value.slice none 0 0], none, false, false, false, false⟩ := by kernel_rfl
theorem ti42 : tiOf Try.prog 42 = some ⟨1, false, [], some (3, 1, 8), [Value.slice none 0 0], none, false, false, false, false⟩ := by kernel_rfl
theorem ti43 : tiOf Try.prog 43 = some ⟨3, true, [(0, 1), (1, 1), (2, 1)], none, [Value.slice none 0 0, Value.slice none 0 0, Value.slice none 0 0], none, false, false, false, false⟩ := by kernel_rfl
theorem ti44 : tiOf Try.prog 44 = some ⟨3, true, [(0, 1), (1, 1), (2, 1)], none, [Value.slice none 0 0, Value.slice none 0 0, Value.slice none 0 0], none, false, false, false, false⟩ := by kernel_rfl
theorem ti50 : tiOf Try.prog 50 = some ⟨1, false, [], some (169, 3, 72), [Value.slice none 0 0], none, false, false, false, false⟩ := by kernel_rfl
theorem ti51 : tiOf Try.prog 51 = some ⟨1, true, [(0, 1)], none, [Value.slice none 0 0], none, false, false, false, false⟩ := by kernel_rfl
theorem ti52 : tiOf Try.prog 52 = some ⟨1, true, [(0, 1)], none, [Value.slice none 0 0], none, false, false, false, false⟩ := by kernel_rfl
theorem ti55 : tiOf Try.prog 55 = some ⟨1, false, [], some (125, 3, 72), [Value.slice none 0 0], none, false, false, false, false⟩ := by kernel_rfl
theorem ti56 : tiOf Try.prog 56 = some ⟨1, true, [(0, 1)], none, [Value.slice none 0 0], none, false, false, false, false⟩ := by kernel_rfl
theorem ti57 : tiOf Try.prog 57 = some ⟨1, true, [(0, 1)], none, [Value.slice none 0 0], none, false, false, false, false⟩ := by kernel_rfl
theorem ti65 : tiOf Try.prog 65 = some ⟨1, false, [], some (137, 3, 40), [Value.slice none 0 0], none, false, false, false, false⟩ := by kernel_rfl
theorem ti68 : tiOf Try.prog 68 = some ⟨1, false, [], some (139, 3, 40), [Value.slice none 0 0], none, false, false, false, false⟩ := by kernel_rfl
theorem ti73 : tiOf Try.prog 73 = some ⟨1, false, [], some (133, 2, 32), [Value.slice none 0 0], none, false, false, false, false⟩ := by kernel_rfl
theorem ti89 : tiOf Try.prog 89 = some ⟨2, true, [(0, 1), (1, 1)], none, [Value.int IntKind.i64 0, Value.slice none 0 0], none, false, false, false, false⟩ := by kernel_rfl
theorem ti90 : tiOf Try.prog 90 = some ⟨2, true, [(0, 1), (1, 1)], none, [Value.int IntKind.i64 0, Value.slice none 0 0], none, false, false, false, false⟩ := by kernel_rfl
theorem ti102 : tiOf Try.prog 102 = some ⟨1, false, [], none, [Value.pointer none], none, false, true, false, false⟩ := by kernel_rfl
theorem ti103 : tiOf Try.prog 103 = some ⟨3, true, [(0, 1), (1, 1), (2, 1)], none, [Value.slice none 0 0, Value.int IntKind.i64 0, Value.bool false], none, false, false, false, false⟩ := by kernel_rfl
theorem ti104 : tiOf Try.prog 104 = some ⟨3, true, [(0, 1), (1, 1), (2, 1)], none, [Value.slice none 0 0, Value.int IntKind.i64 0, Value.bool false], none, false, false, false, false⟩ := by kernel_rfl
theorem ti113 : tiOf Try.prog 113 = some ⟨1, false, [], some (115, 3, 56), [Value.slice none 0 0], none, false, false, false, false⟩ := by kernel_rfl
theorem ti114 : tiOf Try.prog 114 = some ⟨3, true, [(0, 1), (1, 1), (2, 1)], none, [Value.bool false, Value.slice none 0 0, Value.slice none 0 0], none, false, false, false, false⟩ := by kernel_rfl
theorem ti115 : tiOf Try.prog 115 = some ⟨3, true, [(0, 1), (1, 1), (2, 1)], none, [Value.bool false, Value.slice none 0 0, Value.slice none 0 0], none, false, false, false, false⟩ := by kernel_rfl
theorem ti124 : tiOf Try.prog 124 = some ⟨3, true, [(0, 1), (1, 1), (2, 1)], none, [Value.slice none 0 0, Value.slice none 0 0, Value.slice none 0 0], none, false, false, false, false⟩ := by kernel_rfl
theorem ti125 : tiOf Try.prog 125 = some ⟨3, true, [(0, 1), (1, 1), (2, 1)], none, [Value.slice none 0 0, Value.slice none 0 0, Value.slice none 0 0], none, false, false, false, false⟩ := by kernel_rfl
theorem ti127 : tiOf Try.prog 127 = some ⟨1, false, [], none, [Value.pointer none], none, false, true, false, false⟩ := by kernel_rfl
theorem ti132 : tiOf Try.prog 132 = some ⟨2, true, [(0, 1), (1, 1)], none, [Value.string ⟨#[]⟩, Value.string ⟨#[]⟩], none, false, false, false, false⟩ := by kernel_rfl
theorem ti133 : tiOf Try.prog 133 = some ⟨2, true, [(0, 1), (1, 1)], none, [Value.string ⟨#[]⟩, Value.string ⟨#[]⟩], none, false, false, false, false⟩ := by kernel_rfl
theorem ti135 : tiOf Try.prog 135 = some ⟨2, true, [(0, 1), (1, 1)], none, [Value.int IntKind.i64 0, Value.slice none 0 0], none, false, false, false, false⟩ := by kernel_rfl
theorem ti136 : tiOf Try.prog 136 = some ⟨3, true, [(0, 1), (1, 2)], none, [Value.bool false, Value.int IntKind.i64 0, Value.slice none 0 0], none, false, false, false, false⟩ := by kernel_rfl
theorem ti137 : tiOf Try.prog 137 = some ⟨3, true, [(0, 1), (1, 2)], none, [Value.bool false, Value.int IntKind.i64 0, Value.slice none 0 0], none, false, false, false, false⟩ := by kernel_rfl
theorem ti138 : tiOf Try.prog 138 = some ⟨3, true, [(0, 1), (1, 2)], none, [Value.bool false, Value.int IntKind.i64 0, Value.slice none 0 0], none, false, false, false, false⟩ := by kernel_rfl
theorem ti139 : tiOf Try.prog 139 = some ⟨3, true, [(0, 1), (1, 2)], none, [Value.bool false, Value.int IntKind.i64 0, Value.slice none 0 0], none, false, false, false, false⟩ := by kernel_rfl
theorem ti146 : tiOf Try.prog 146 = some ⟨1, false, [], none, [Value.pointer none], none, false, true, false, false⟩ := by kernel_rfl
theorem ti154 : tiOf Try.prog 154 = some ⟨1, true, [(0, 1)], none, [Value.slice none 0 0], none, false, false, false, false⟩ := by kernel_rfl
theorem ti155 : tiOf Try.prog 155 = some ⟨1, true, [(0, 1)], none, [Value.slice none 0 0], none, false, false, false, false⟩ := by kernel_rfl
theorem ti156 : tiOf Try.prog 156 = some ⟨1, false, [], none, [Value.pointer none], none, false, true, false, false⟩ := by kernel_rfl
theorem ti160 : tiOf Try.prog 160 = some ⟨1, true, [(0, 1)], none, [Value.slice none 0 0], none, false, false, false, false⟩ := by kernel_rfl
theorem ti167 : tiOf Try.prog 167 = some ⟨1, false, [], some (196, 2, 32), [Value.slice none 0 0], none, false, false, false, false⟩ := by kernel_rfl
theorem ti168 : tiOf Try.prog 168 = some ⟨3, true, [(0, 1), (1, 1), (2, 1)], none, [Value.slice none 0 0, Value.slice none 0 0, Value.slice none 0 0], none, false, false, false, false⟩ := by kernel_rfl
theorem ti169 : tiOf Try.prog 169 = some ⟨3, true, [(0, 1), (1, 1), (2, 1)], none, [Value.slice none 0 0, Value.slice none 0 0, Value.slice none 0 0], none, false, false, false, false⟩ := by kernel_rfl
theorem ti174 : tiOf Try.prog 174 = some ⟨1, false, [], none, [Value.pointer none], none, false, true, false, false⟩ := by kernel_rfl
theorem ti178 : tiOf Try.prog 178 = some ⟨3, true, [(0, 1), (1, 1), (2, 1)], none, [Value.slice none 0 0, Value.int IntKind.i64 0, Value.int IntKind.i64 0], none, false, false, false, false⟩ := by kernel_rfl
theorem ti179 : tiOf Try.prog 179 = some ⟨3, true, [(0, 1), (1, 1), (2, 1)], none, [Value.slice none 0 0, Value.int IntKind.i64 0, Value.int IntKind.i64 0], none, false, false, false, false⟩ := by kernel_rfl
theorem ti184 : tiOf Try.prog 184 = some ⟨1, false, [], none, [Value.pointer none], none, false, true, false, false⟩ := by kernel_rfl
theorem ti189 : tiOf Try.prog 189 = some ⟨1, false, [], some (127, 1, 8), [Value.slice none 0 0], none, false, false, false, false⟩ := by kernel_rfl
theorem ti190 : tiOf Try.prog 190 = some ⟨2, true, [(0, 1), (1, 1)], none, [Value.slice none 0 0, Value.slice none 0 0], none, false, false, false, false⟩ := by kernel_rfl
theorem ti191 : tiOf Try.prog 191 = some ⟨2, true, [(0, 1), (1, 1)], none, [Value.slice none 0 0, Value.slice none 0 0], none, false, false, false, false⟩ := by kernel_rfl
theorem ti196 : tiOf Try.prog 196 = some ⟨2, true, [(0, 1), (1, 1)], none, [Value.string ⟨#[]⟩, Value.string ⟨#[]⟩], none, false, false, false, false⟩ := by kernel_rfl
theorem ti204 : tiOf Try.prog 204 = some ⟨1, false, [], none, [Value.int IntKind.u64 0], some IntKind.u64, false, false, false, false⟩ := by kernel_rfl
theorem ti206 : tiOf Try.prog 206 = some ⟨2, true, [(0, 1), (1, 1)], none, [Value.int IntKind.i64 0, Value.int IntKind.i64 0], none, false, false, false, false⟩ := by kernel_rfl
theorem ti207 : tiOf Try.prog 207 = some ⟨2, true, [(0, 1), (1, 1)], none, [Value.int IntKind.i64 0, Value.int IntKind.i64 0], none, false, false, false, false⟩ := by kernel_rfl
theorem ti217 : tiOf Try.prog 217 = some ⟨4, true, [(0, 1), (1, 1), (2, 1), (3, 1)], none, [Value.pointer none, Value.pointer none, Value.pointer none, Value.string ⟨#[]⟩], none, false, false, false, false⟩ := by kernel_rfl
theorem ti218 : tiOf Try.prog 218 = some ⟨4, true, [(0, 1), (1, 1), (2, 1), (3, 1)], none, [Value.pointer none, Value.pointer none, Value.pointer none, Value.string ⟨#[]⟩], none, false, false, false, false⟩ := by kernel_rfl
theorem ti219 : tiOf Try.prog 219 = some ⟨0, true, [], none, [], none, false, false, false, false⟩ := by kernel_rfl
theorem ti220 : tiOf Try.prog 220 = some ⟨0, true, [(0, 0)], none, [], none, false, false, false, false⟩ := by kernel_rfl
theorem ti221 : tiOf Try.prog 221 = some ⟨0, true, [(0, 0)], none, [], none, false, false, false, false⟩ := by kernel_rfl
theorem ti222 : tiOf Try.prog 222 = some ⟨1, false, [], none, [Value.int IntKind.u32 0], some IntKind.u32, false, false, false, false⟩ := by kernel_rfl
theorem ti223 : tiOf Try.prog 223 = some ⟨1, false, [], none, [Value.int IntKind.u8 0], some IntKind.u8, false, false, false, false⟩ := by kernel_rfl
theorem ti224 : tiOf Try.prog 224 = some ⟨1, false, [], none, [Value.int IntKind.u8 0], some IntKind.u8, false, false, false, false⟩ := by kernel_rfl
theorem ti226 : tiOf Try.prog 226 = some ⟨1, false, [], none, [Value.pointer none], none, false, true, false, false⟩ := by kernel_rfl
theorem ti227 : tiOf Try.prog 227 = some ⟨1, false, [], none, [Value.int IntKind.i32 0], some IntKind.i32, false, false, false, false⟩ := by kernel_rfl
theorem ti228 : tiOf Try.prog 228 = some ⟨1, false, [], none, [Value.int IntKind.i32 0], some IntKind.i32, false, false, false, false⟩ := by kernel_rfl
theorem ti232 : tiOf Try.prog 232 = some ⟨1, false, [], none, [Value.pointer none], none, false, false, false, false⟩ := by kernel_rfl
theorem flPair : flatB Try.prog 133 [0, 0] = true := by kernel_rfl
abbrev In (i : Int) : AV := .c (.v (.int .i64 i))
abbrev Bo (b : Bool) : AV := .c (.v (.bool b))
abbrev Rw (es : List (List CV)) : AV := .c (.row false es)
set_option maxRecDepth 10000
theorem vc {P Q : Prop} (h : Q) (e : P = Q := by
  (simp (config := {maxSteps := 1000000, implicitDefEqProofs := false}) only [↓brB_true, ↓brB_false, upd_at, ↓reduceIte, Cfg.joins, firstReg, ne_eq, not_true_eq_false, not_false_eq_true, or_false, false_or, or_self, false_and, and_false, Int.toNat_natCast, Int.mul_one, Int.natCast_one, List.length_replicate, eB_length, Nat.reduceBneDiff, List.length_map, List.nodup_nil, List.nodup_cons, List.not_mem_nil, decide_true, decide_false, CV.im, Int.natCast_nonneg, Int.ofNat_lt, Int.ofNat_le, nat0, sim_v, Value.int.injEq, Value.bool.injEq, Value.string.injEq, outP, wkP, phO, numbered_nil, numbered_cons, drawR_nil, drawR_cons, drwK_app, stDK_app, gstepD_none, gstepD_some, grDQ_some, grDK_true, grDK_false, stepD_pick, stepD_alloc, stepD_box, stepD_load, stepD_store, stepD_fieldAddr, stepD_indexAddr, stepD_nilCheck, stepD_binOp, stepD_unOp, stepD_convert, stepD_index, stepD_slice, stepD_makeSlice, stepD_build, stepD_buildSlice, stepD_extract, stepD_builtin, stepD_move, stepD_assign, stepD_call, stepX_eq, res_at, Ck_eq, chkB_nil, chkB_cons, disj_nil, disj_cons, Array.toList_append, Bool.or_false, Bool.false_or, Bool.or_self, disj_nil_r, okPair, detFp, skipFp, refsL, refsA, nbA, nbL, nbO, Op.operands, Call.operands, Bool.or_true, Bool.true_or, Bool.false_and, Bool.and_false, kl_nil, klH_nil, kl_cons, klH_cons, after_eq, HpS_at, Nat.reduceSub, after0_eq, inlS_eq, killA, killL, killO, renA, renL, renO, rn, callObjs, viL, viA, viH, viO, List.getElem?_nil, Option.getD_some, Option.getD_none, boolK_c, optK_some, optK_none, List.contains_nil, List.contains_cons, List.lookup_nil, List.lookup_cons, dstOf, bindK_some, bindK_none, evOp, getA, putT, updL, initT, sS, tS, hS, In, Bo, Rw, constA, zeroC, Value.oneCell', binV, binI, unV, evLen, isStrA, nilA, evLoad, evStore, evField, evIndexAddr, evConv, evSlice, boundA, loA, hiA, stC_length, inC_length, prC_length, ndC_length, shC_length, wrC_length, opC_length, suC_length, al_eB, al_st, al_in, al_pr, al_nd, al_sh, al_wr, al_op, al_su, allV_eB, allV_st, allV_in, allV_pr, allV_nil, allV_cons, isV_v, isV_row, isV_ptr, im_eB, im_st, im_in, im_pr, im_nd, im_sh, im_wr, eB_nil, sim_nil, sim_eB, sim_st, sim_in, sim_pr, sim_nd, sim_sh, sim_wr, sim_op, sim_su, Int.reduceEq, Int.reduceNe, Int.reduceLT, Int.reduceLE, Int.reduceGT, Int.reduceGE, Int.reduceNeg, Int.reduceToNat, List.length_set, List.set_set, beq_self_eq_true, bne_self_eq_false, frzC_none, frzC_some, frz_nil, frz_cons, frS_eq, frA, frL, frO, frN, frP, toFs, toF, flPair, kOf, celEq, valEq, evCopy, nat512, optArr_some, optArr_none, evBuild_eq, evBuildSlice, evElems_nil, evElems_cons, range0, range1, range2, range3, range4, range5, range6, range7, range8, range9, repl0, repl1, repl2, repl3, repl4, repl5, repl6, repl7, repl8, repl9, List.flatten_cons, List.flatten_nil, Nat.zero_mul, Nat.one_mul, Nat.mul_one, pickF_nil, pickF_cons, all_nil', all_cons', false_implies, implies_true, cellsA, oneA, okA, lift, liftB, liftC, toC, toCs, splice, fillA, gone, goneO, Go.Proofs.Ytnnmpdanfeejbaa.Abs.distinct, evSrc, evAppend, List.getElem?_toArray, List.getElem?_cons_succ, List.getElem?_cons_zero, List.take_zero, List.drop_zero, List.take_succ_cons, List.drop_succ_cons, List.take_nil, List.drop_nil, List.cons_append, List.nil_append, List.append_nil, List.map_cons, List.map_nil, List.all_cons, List.all_nil, Option.isSome_some, Option.isSome_none, Option.map_some, Option.map_none, List.isEmpty_cons, List.isEmpty_nil, Bool.false_eq_true, Bool.and_true, Bool.true_and, Bool.and_self, Nat.reduceEqDiff, Nat.reduceLT, Nat.reduceLeDiff, Nat.reduceBEq, Nat.reduceSub, Nat.add_zero, Nat.zero_add, reduceIte, reduceCtorEq, Option.bind_some, Option.bind_none, Nat.reduceAdd, Nat.reduceMul, Bool.not_true, Bool.not_false, List.size_toArray, List.length_cons, List.length_nil, true_and, and_true, and_self, EndA, resV, isEnd, tupA, slotsP, objsP, wkA, wkL, wkO, gS, true_or, or_true, ti2, ti3, ti4, ti5, ti6, ti7, ti8, ti9, ti10, ti11, ti12, ti13, ti14, ti15, ti16, ti17, ti18, ti19, ti21, ti22, ti23, ti24, ti25, ti26, ti28, ti29, ti30, ti31, ti41, ti42, ti43, ti44, ti50, ti51, ti52, ti55, ti56, ti57, ti65, ti68, ti73, ti89, ti90, ti102, ti103, ti104, ti113, ti114, ti115, ti124, ti125, ti127, ti132, ti133, ti135, ti136, ti137, ti138, ti139, ti146, ti154, ti155, ti156, ti160, ti167, ti168, ti169, ti174, ti178, ti179, ti184, ti189, ti190, ti191, ti196, ti204, ti206, ti207, ti217, ti218, ti219, ti220, ti221, ti222, ti223, ti224, ti226, ti227, ti228, ti232, bindK_ite, seqC_normal, seqC_exit, seqC_ret, blkC_normal, blkC_exit, blkC_ret, lopC_normal, lopC_exit, lopC_ret, endC_normal, endC_ret, endR_app, seqK_app, stK_app, cndK_app, wpC_seq, wpC_skip, wpC_region, wpC_draw, wpC_cond, wpC_block, wpC_loop, wpC_exit, wpC_ret, seqR_nil, seqR_cons, gstp_none, gstp_some, grdQ_some, grdK_true, grdK_false, stp_call, stp_builtin, stp_move, stp_assign, stp_pick, stp_alloc, stp_box, stp_load, stp_store, stp_fieldAddr, stp_indexAddr, stp_nilCheck, stp_binOp, stp_unOp, stp_convert, stp_index, stp_slice, stp_makeSlice, stp_build, stp_buildSlice, stp_extract, List.toList_toArray]) <;> exact rfl) : P := e.mpr h
/-- As the code is asked, once it has been cut to what it comes to. -/
theorem bindK_bind {α : Type} (o : Option α) (f : α → EvR) (K : AV → List (Nat × Option Ob) → Prop) : bindK (o.bind f) K = ∃ x, o = some x ∧ bindK (f x) K := by
  cases o <;> simp [bindK]

end Go.Proofs.Ytnnmpdanfeejbaa.Abs

import Derived.Test.YtjjofhpbbndccaaGreatDoorC3
import Derived.Test.YtjjofhpbbndccaaGreatDoorRows
import Derived.Shelf.LaysM
import Derived.Shelf.Strconv.Clone
import Derived.Shelf.Strings.Search2
import Derived.Shelf.Strings.Repeat
import Derived.Test.YtjjofhpbbndccaaGreatDoorProg
import Derived.Shelf.SlLaysNS
import Derived.Tactics
import Derived.Tactics2
import Derived.Defers
import Derived.Recover
import Derived.Laws.Pointers
import Derived.WalkLawsBesides
namespace Go.Ev.S
open Go Go.Proofs Go.Ev
def KF (l:List (List Nat)) (r:Nat):Option (List Nat × Nat):=(l[r]?).map (·,0)
def kf3:=KF [[0,1,2,3],[0,2,3,5],[0,2,3,5,9],[],[0,2,3,5,9],[9],[0,2,3,5,9],[0,2,3,5,9,10],[0,2,3,5,9,10],[0,2,3,5,9,10],[],[0,2,3,5,9],[2,3,5,9,11,12],[],[2,3,5,9,11,12],[3,9,11,12,13],[],[9,11,12],[9,11,12,14,15,16],[9,11,14,15,16,17,18,19],[],[9,11,14,17],[9,11,14,17,20],[9,11,14,17,20],[9,11,14,17,20],[],[9,11],[9,11],[9,11],[9,11],[9,23]]
def kf5:=KF [[0,1,2],[0,1,2],[0,1,2,7],[],[0,1,2,7],[0,1,2,7,9],[0,1,2,7,9],[0,1,2,7,9],[0,1,2,7,9,10],[0,1,2,7,9,10,11],[0,1,2,7,9,10,11,12],[0,1,2,7,9,11,12,13],[0,1,2,7,9,11,12,13],[1,2,7],[1,2,7,15],[1,2,7,15],[1,2,7,15],[1,2,7,15],[7]]
def kf6:=KF [[0],[1],[1,4],[],[1,4],[],[1,4],[1],[1,4],[1],[1],[]]
def kf7:=KF [[0,1],[0,1],[0,1,6],[0,1,6,7],[],[0,1,6,7],[6],[0,1,7],[],[0,1],[0,1,9],[9],[0,1],[0,10],[0,10],[]]
def kf8:=KF [[0,1,2,3],[0,1,2,3],[0,2,3,9,10],[10],[0,2,3,9],[0,2,3,9,11],[0,9,11,12],[12],[0,9,11],[0,9,11,13],[0,9,11,13,15],[],[0,9,11],[9,11,16],[16],[9,11],[]]
def kf9:=KF [[0],[0],[],[0],[0,5],[0,5,6],[0,5,6,18,19,20],[0,5,6,18,19,20],[0,5,6,8,18,19,20],[0,5,6,8,9,10,18,19,20],[0,5,6,8,9,18,19,20],[0,5,6,8,9,11,18,19,20],[0,5,6,8,9,13,14,18,19,20],[0,5,6,8,18,19,20],[0,5,6,8,9,13,18,19,20],[0,5,6,18,19,20],[5,6]]
def qrl:=KF [[0],[0,2]]
def qrc:=KF [[0,1]]
def qqQ:=KF [[0,1],[0,1],[0,5,6],[0,5],[5,6],[6],[5],[]]
def qqO:=KF [[0],[0],[0,3],[0],[0,3],[3],[0],[]]
def qqL:=KF [[0],[0,2],[0,2,4],[2],[0,2,4],[2],[0,2,4],[0,2,4],[0,2,4],[0,2,4,5],[0,2,4,6],[2],[0,2,4,6],[0,2,4,6],[0,2,4,6],[0,2,4],[2],[2,4]]
def qqA:=KF [[0],[1],[1,5],[],[1,5],[],[1,5],[1,5],[1],[1,3],[3],[3],[]]
def qq6:=KF [[0,1],[0,1],[],[0,1],[0,1]]
def qq0:=KF [[0],[0,2],[0,2,3],[2,3]]
def qqv:=KF [[0,1],[0,1],[0,1,6],[0,1,7],[0,1,7,8],[0,1,7,8],[0,1,7,8,9],[0,1,7,8,9,11],[0,1,7,8,9],[7,8]]
def qqq:=KF [[0,1,2],[0,1,2],[1,2,7],[1,2,7,8],[1,2,7,8],[1,2,7,8],[1,2,7,8,9],[7]]
def qqo:=KF [[0,1],[0,1],[0,1,5],[0,5],[0,5]]
def qqn:=KF [[0],[1],[1,3],[6,7],[3,6,7],[3,5,6,7],[3,6,7],[3]]
def qqm:=KF [[0],[0],[3]]
def qql:=KF [[0,1],[0,1],[0,1,6],[6],[0,1],[7],[7],[]]
def qqk:=KF [[0],[0],[0,4,5],[4,5,11,12,13],[4,5,11,12,13],[4,5,7,11,12,13],[4,5,7,11,12,13],[4,5,7,11,12,13],[4,5,11,12,13],[4,5]]
def qqj:=KF [[0],[0],[0],[],[0],[0],[]]
def qqi:=KF [[],[]]
def qqh:=KF [[0],[0]]
def qqg:=KF [[0,1,2],[0,1,2],[],[0,1,2],[],[0,1,2],[],[0,1,2],[0,1,2,7],[0,1,2,7],[0,1,2],[]]
def qqe:=KF [[0],[0]]
def qqd:=KF [[0],[0]]
def qqc:=KF [[0],[0],[0,3],[0,3,9,10,11],[0,3,9,10,11],[0,3,5,9,10,11],[0,3,5,9,10,11],[0,3,9,10,11],[3],[3]]
def qqb:=KF [[0,1],[0,1],[6,7],[7],[6]]
def qqa:=KF [[0],[0],[4,5],[5],[4],[4,6],[6]]
def qpZ:=KF [[0],[0,2]]
def qpY:=KF [[0,1],[0,1],[],[1],[11,12,13],[11,12,13],[6,11,12,13],[],[11,12,13],[]]
def qpX:=KF [[0,1],[0,1]]
def qpW:=KF [[0,1],[0,1]]
def qpV:=KF [[0,1],[0,1]]
def qpU:=KF [[0,1],[0,1]]
def qpT:=KF [[0],[0,2],[0,2,4],[2],[0,2,4],[0,2,4,12,13],[0,2,4,12,13],[0,2,4,5,12,13],[0,2,4,5,6,12,13],[2],[0,2,4,5,6,12,13],[0,2,4,12,13],[2,4]]
def qpS:=KF [[0],[0],[0,4,5],[],[4]]
def qpR:=KF [[0],[1],[1,3],[1,3,4],[1,3,4],[1,3,4],[3]]
def qpQ:=KF [[0],[0],[0,3],[0,3,4],[0,3,4],[0,3,4],[0,3,4],[3]]
def qpP:=KF [[0,1],[0,1],[],[0,1]]
def qpO:=KF [[0],[0,2]]
def qpN:=KF [[0,1],[1,2],[1,2,5],[1,2,5],[1,2,5,6],[1,2,5,6],[1,2,5,6],[1,2,5,6],[1,2,5,6],[1,2,5,6],[1,2,5,6],[1,2,5,6],[1,2,5,6],[1,5,6],[1,5],[1,5],[5]]
def qpL:=KF [[0],[0]]
def qpK:=KF [[0,1],[0,1,4],[0,1,4,5]]
def qpJ:=KF [[0],[0]]
def qpI:=KF [[0,1,2,3,4],[0,1,2,3,9],[0,2,3,9,12,13],[13],[0,2,3,9,12],[],[0,2,3,9,12],[0,2,3,9,12,14],[0,2,3,9,12,14,15],[0,2,3,9,12,14,15,16],[0,2,3,9,12,14,15,16,17],[0,2,3,9,12,14,15,16,17,18],[0,2,3,9,12,14,15,16,17,18],[0,2,3,9,12,14,15,16,17,18],[0,2,3,9,12,14,15,16,17,18,19],[0,2,3,9,12,14,15,16,17,18,19],[0,2,3,9,12,14,15,16,17,18,19,20],[0,2,3,9,12,14,15,16,17,18,19,20],[0,2,3,9,12,14,15,16,17,18,19,20],[0,2,3,9,14,15,16,17],[0,2,3,9,14,15,16,17,21],[0,2,3,9,14,15,16,17,21],[0,2,3,9,14,15,16,17,21],[0,2,3,9,14,15,16,17,21,22],[0,2,3,9,14,15,16,17],[0,2,3,9,14,15,16,17,23],[0,2,3,9,14,16,23,24],[0,2,3,9,14,16,23,24],[0,2,3,9,14,16,23,24,26],[0,2,3,9,14,16,23,24,25,26],[0,2,3,9,14,16,23,24,25,26],[0,2,3,9,14,16,23,24,26],[0,2,3,9,14,16,23,24,26,27],[0,2,3,9,14,16,23,24,26,27],[0,2,3,9,14,16,23,24,26,27],[0,2,3,9,14,16,23,24,26,27,28],[0,2,3,9,14,16,23,24,26,27,28],[0,2,3,9,14,16,23,24,26,27,28],[0,2,3,9,14,16,23,24,26,27,28],[0,2,3,9,14,16,23,24,26,27,28],[0,2,3,9,14,16,23,24,26,27,28],[0,2,3,9,14,23,24,26],[0,14],[],[0,2,3,9,23,24,26],[0,2,3,9,23,24],[0,2,3,9,23,24],[0,2,3,9,23,24],[0,9,23,24],[23]]
def qpH:=KF [[0],[0]]
def qpG:=KF [[0,1],[1,2],[1,2,5],[1,2,5],[1,2,5],[1,2,5],[2,5],[2,5]]
def qpF:=KF [[0,1],[0,1]]
def qpE:=KF [[0,1],[0,1],[1,10,11,12],[1,10,11,12],[1,6,10,11,12],[6],[1,10,11,12],[]]
def qpD:=KF [[0],[0],[],[0]]
def qpB:=KF [[0],[0]]
def qpA:=KF [[0],[0],[0,4,5],[5],[0,4],[0,4,6]]
def qp9:=KF [[0],[0],[0,4],[0,4,5],[0,4,5],[5],[0,4,5],[0,4,5,6,7],[5,7],[0,4,5,6],[0,4,5,40,41,42],[0,4,5,40,41,42],[0,4,5,9,40,41,42],[0,4,5,9,40,41,42],[5],[0,4,5,9,40,41,42],[0,4,5,10,40,41,42],[5,10],[0,4,5,40,41,42],[5]]
def qp8:=KF [[0],[0],[],[0],[0,13,14],[0,13,14],[0,3,13,14],[],[0,13,14],[]]
def qp7:=KF [[0,1],[0,1]]
def qp6:=KF [[0,1],[0,1],[0,1],[0]]
def qp5:=KF [[0,1],[0,1],[0,1],[0]]
def qp3:=KF [[0,1,2,3],[0,1,2,3],[],[0,1,2,3],[0,3],[0,1,2,3],[0,1,2],[0,1,2,3],[0,1,2,3],[0,1,2,3,9],[0,1,2,3,9],[0,1,2,3,9,10],[0,1,2,3,9,10],[0,1,2,3,9,10,11],[0,1,2,3,9,10,11],[0,1,2,3,9,10,11],[0,1,2,3,9,10],[0,9,10],[9,10]]
def qp2:=KF [[0,1],[0,1]]
def qp1:=KF [[0,1,2],[0,1,2],[0,1,2,8,9],[0,1,2,8,9],[8]]
def qp0:=KF [[0,1],[0,1],[],[0,1],[0,1,5],[0,1,6],[0,1,5,6],[0,1,5,6],[0,5]]
def qpz:=KF [[0],[0],[],[0],[0,4],[0,5],[0,4,5],[0,4,5],[0,4,5,7],[7],[0,4,5],[0,4,5,8],[0,4,5,8],[0,4,5,8],[0,4,5,8],[0,4,5,8],[0,4,5,8,9],[0,4,5,8,9],[0,4,5,8,9],[0,4,5,8],[4],[],[4]]
def qpy:=KF [[0,1],[0,1],[0,1,5],[0,6],[0,5,6],[0,5,6],[5]]
def qpx:=KF [[0],[0],[0,3],[0,3],[0,3],[0,3],[0,3,4],[0,3,4],[0,3,4],[0,3,4,5],[0,3,4,5],[0,3],[3]]
def qpw:=KF [[0,1],[0,3],[0,3,5],[0,3,5,6],[0,3,5,6],[0,3,5,6],[6],[0,3,5],[0,3,5,7],[0,3,5,7,8],[0,3,5,8,9],[0,3,5,8,9,10],[0,3,5,8,9],[0,3,5,8,9],[0,3,8],[0,8,11],[0,8,11,12],[0,8,11],[0]]
def qpv:=KF [[0,1,2],[0,2,4],[2,4],[2]]
def qpu:=KF [[0,1],[0,1],[0,1,5],[0,5],[0,5],[5]]
def qps:=KF [[0],[1],[1,3],[1,3],[4],[1,3,4],[1,3,4],[3]]
def qpr:=KF [[0],[0],[0,3],[0,3,4],[0,3,4],[0,3,4],[3]]
def qpq:=KF [[0,1,2,3,4],[0,1,2,3,4],[0,1,2,3,4,12,13],[0,1,2,3,4,12,13,14],[0,1,2,3,4,12,13,14],[0,1,2,3,4,13,14],[0,1,2,3,4,12,13,14],[0,1,2,3,4,12,13],[0,1,2,3,4,13],[0,1,2,3,4,13,15],[0,1,2,3,4,13,15],[0,1,2,3,4,13,15],[0,1,2,4,13,15],[0,1,2,4,13,15],[0,1,2,4,12,15],[0,1,2,4,12],[1,2,12]]
def qpp:=KF [[0,1,2],[0,1,2,6],[0,1,2,6],[0,1,2,6]]
def qpo:=KF [[0,1],[0,1],[0,1,5],[0,1,5,6],[0,1,6],[0,1,5,6],[0,1,5,6],[5]]
def qpn:=KF [[0],[0],[0,3],[0,3,4],[0,4],[0,3,4],[3]]
def qpm:=KF [[0,1],[0,1],[0],[0],[0],[0,5],[0,5,6],[5,6],[0,1],[8]]
def qpk:=KF [[0],[0,2],[2],[0,2],[2],[0,2],[0,2,4],[0,2,4,5,6],[2],[0,2,4,5,6],[2],[0,2,4,5,6],[2],[0,2,4,5,6],[2],[2,4,5],[2,4,5,7],[2,7],[2,4,5],[2,4,8],[2,8],[2,4]]
def qpj:=KF [[0],[1],[1,4],[],[4]]
def qpi:=KF [[0,1],[0,1]]
def qph:=KF [[0,1],[0,1],[],[0,1],[0,6,7],[6,7]]
def qpg:=KF [[0,1],[0,1],[0,1,5],[],[0,1],[]]
def qrk:=KF [[0,1],[0,1]]
def qrj:=KF [[0,1],[0,1],[0],[0,1],[0,1],[0,1],[0,1,5],[0,1,5,6],[5],[0,1,5,6],[0,1,5,6]]
def qri:=KF [[0,1],[0,1]]
def qrh:=KF [[0,1],[0,1]]
def qrg:=KF [[0,1,2],[0,1,2],[],[0,1,2],[0,1,2,8],[],[0,1,2,8,9],[0,1,2,8,9],[0,2,8,9],[0,1,2,8,9],[0,2,8,9],[0,1,2,8,9],[0,2,8,9],[0,2,8,9],[0,1,2,8,9],[0,2,8,9],[0,2,8,9],[0,1,2,8,9],[0,2,8,9],[0,2,8,9],[0,1,2,8,9],[0,1,2,8,9],[0,1,8,9],[0,1,2,8,9],[],[0,1,2,8,9],[0,1,2,8,9],[0,1,2,8,9],[0,1,2,8,9,85],[0,1,2,8,9],[0,1,2,8,9,85],[0,1,2,8,9],[0,1,2,8,9,10],[0,1,8,9,10,11],[0,1,8,9,10,11,12],[0,1,8,9,10,11,12,13],[1,8,9,10,11,12,13,99,100,101],[1,8,9,10,11,12,13,99,100,101],[1,8,9,10,11,12,13,15,99,100,101],[],[1,8,9,10,11,12,13,15,99,100,101],[1,8,9,10,11,13,99,100,101],[1,8,9,10,11,12,13,15,99,100,101],[1,8,9,10,11,12,13,15,99,100,101],[1,8,9,10,11,12,13,15,99,100,101],[1,8,9,10,11,12,13,15,99,100,101],[1,8,9,10,11,12,13,16,99,100,101],[],[1,8,9,10,11,12,13,16,99,100,101],[11],[1,8,9,10,11,12,13,16,99,100,101],[1,8,9,10,11,12,13,16,99,100,101],[1,8,9,10,11,12,13,17,99,100,101],[11],[1,8,9,10,11,12,17,99,100,101],[1,8,9,10,11,12,13,99,100,101],[9,12,13],[],[13]]
def qrf:=KF [[0,1,2,3,4],[0,1,2,3,4],[0,1,2,3,4,11],[0,1],[0,1,2,3,4,11],[0,1],[0,1,2,3,4,11],[0,1,2],[0,1,3,4,11],[0,1,3],[4]]
def qre:=KF [[0,1],[0,1],[],[0,1],[1,5],[],[5],[5]]
def qrd:=KF [[0],[1],[],[1],[],[1]]
def qrb:=KF [[0],[1]]
def qra:=KF [[0],[0,2]]
def qqZ:=KF [[0],[1]]
def qqY:=KF [[0,1,2,3,4],[0,1,2,3,4],[0,1,2,3,4,11,12],[0,1,2,3,4,11,12,13],[0,1,2,3,4,11,12,13],[0,1,2,3,4,11,12,13],[0,1,2,3,4,11,13],[0,1,2,3,4,11,13],[0,2,3,4,11,12],[0,3,11,12,14],[0,3,11,14],[0,3,11,12,14],[0,3,11,14],[11]]
def qqX:=KF [[0,1],[0,1],[0,1,5],[0,1,5],[0,1,5],[0,5],[0,1],[0,1,6],[0,1,6,7],[0,1,7,8],[0,1,7,8],[0,1,7,8],[7]]
def qqW:=KF [[0,1,2],[0,1,2],[],[0,1,2],[0,1,2,8],[0,1,8,9],[0,1,8,9],[0,1,8,9],[8]]
def qqV:=KF [[0,1],[1,2],[1,5,6],[1,7],[1,7,8],[1,7,8],[1,7,8,9],[1,7,8,9],[1,7,8,9],[1,7,8],[1,7,8],[7,10],[7,10],[7,10],[7],[7],[7]]
def qqU:=KF [[0],[0],[0,3],[0,3,4,5],[4,5],[0,3,4,5],[0,3,4,5,6],[0,3,4,5,6],[0,3,4,5,6],[0,3,4,5,6],[0,3,4,5,6],[0,3,4,5,6],[0,3,4,5,6],[0,3,4,5,6],[0,3,4,5,6],[0,3,4,5,6],[0,3,4,5,6],[0,3,4,5,6],[0,3,4,5,6],[0,3,4,5,6],[0,3,4,5,6],[0,3,4,5,6],[0,3,4,5,6],[0,3,4,5,6],[0,3,4,5,6],[0,3,4,5,6],[0,3,4,5,6],[0,3,4,5,6],[3,4,5],[3,4,5],[3,4,5],[3,4,5],[3,4,5],[3,4,5],[3,4,5],[3,4,5],[3,4,5],[3,4,5],[3,4,5],[3,4,5],[4,5],[4,5],[4,5]]
def qqS:=KF [[0],[0],[],[0],[],[0]]
def qqR:=KF [[0],[1]]
def qqP:=KF [[0,1,2,3,4],[0,1,2,3,4,10,11],[0,1,2,3,4,10,11],[0,1,2,3,4,10,11],[0,1,2,3,4,10,11,12],[0,1,2,3,4,10,11,12,13],[0,1,2,3,4,10,11,12,13],[0,1,2,3,4,10,11,12,13],[0,1,2,3,4,10,11,12,13],[0,1,2,3,4,10,11,12,13,14],[0,1,2,3,4,10,11,12,13,14,15],[0,1,3,4,10,11,12,13,14,15,16],[0,1,3,4,10,11,12,13,14,15,16],[0,1,3,4,10,11,12,13,14,15,16],[0,1,3,4,10,11,12,13,14,15,16],[0,1,3,4,10,11,12,13],[0,1,3,4,10,11,12,13],[0,1,2,3,4,10,11,12,13],[0,1,3,4,10,11,12,13,17],[0,1,3,4,10,11,12,13,17],[0,1,3,4,10,11,12,13,17],[0,1,3,4,10,11,12,13,17,18],[0,3,4,10,11,12,13,17,18],[0,1,3,4,10,11,12,13],[0,1,3,4,10,11,12,13],[0,3,4,10,11,12,13],[0,4,10,11,12,13],[0,4,10,11,12,13],[0,4,10,11,12,13],[0,11,12,13],[10,12,13]]
def qqM:=KF [[0,1],[0,1]]
def qqK:=KF [[0],[1,2],[1,2,3],[1,2,3,4],[1,2,3,4],[1,2,3,4,5],[1,2,3,4,5,22,23,24],[1,2,3,4,5,22,23,24],[1,2,3,4,5,7,22,23,24],[1,2,3,4,5,22,23,24],[1,2,3,4,5],[1,2,3,4,5,38,39,40],[1,2,3,4,5,38,39,40],[1,2,3,4,5,9,38,39,40],[1,2,3,4,5,38,39,40],[1,2,3,4,5,38,39,40],[1,2,3,4,5],[1,2,3,5],[2,3]]
def qqJ:=KF [[0,1,2,3],[1,2,3,4],[],[1,2,3,4],[],[1,2,3,4],[],[]]
def qqI:=KF [[0],[0]]
def qqH:=KF [[0,1],[2,3,4],[4,5]]
def qqG:=KF [[0],[0]]
def qqF:=KF [[0,1],[0,1]]
def qqE:=KF [[0,1],[0,1]]
def qqD:=KF [[0],[0],[0,3],[0,3],[0,3],[0,3,4],[],[0]]
def qqC:=KF [[0],[1]]
def qqB:=KF [[0,1],[0,1]]
def qq9:=KF [[0,1],[1,2,4],[1,4,5,6,7,8],[1,4,5,6,7,8,9],[1,4,5,6,7,8,9],[1,4,5,6,7,8,9],[1,4,5,6,7,8,9],[1,4,5,6,7,8,9],[1,4,5,6,7,8,9],[1,4,5,6,7,8,9],[1,4,5,6,7,8,9],[1,4,5,6,7,8,9],[1,4,5,6,7,8,9],[1,4,5,6,7,8,9],[1,4,5,6,7,8,9],[1,4,5,6,7,8,9],[1,4,5,6,7,8,9],[1,4,5,6,7,8,9],[1,4,5,6,7,8,9],[4,5,6,7,8]]
def qq8:=KF [[0,1],[0,1],[0,1,5],[0,1,5,6],[0,1,5,6],[0,1,5,6],[0,1,5,6],[0,1,5,6],[5]]
def qq7:=KF [[0,1],[0,1]]
def qq5:=KF [[0,1],[0,1]]
def qq4:=KF [[0,1],[0,1],[4]]
def qq3:=KF [[0,1,2],[0,1,2],[],[0,1,2],[0,1,2,8],[0,1,8,9],[0,1,8,9],[0,1,8,9],[8]]
def qq2:=KF [[0],[0]]
def qq1:=KF [[0],[0]]
def qqz:=KF [[0,1,2],[0,1,2],[2,3,4],[2,3]]
def qqy:=KF [[0,1],[]]
def qqx:=KF [[0,1],[0,1,4],[4,6,7],[4,7],[4,6],[4,8]]
def qqw:=KF [[0],[0]]
def qqu:=KF [[0,1],[0,1]]
def qqt:=KF [[0],[0]]
def qqs:=KF [[0,1,2,3,4],[0,1,2,3,4],[0,1,2,3,4,12,13],[0,1,2,4,12,13,14],[13],[0,1,2,4,12,14],[],[0,1,4,12,14],[],[0,1,12]]
def qqr:=KF [[0],[0],[0,3],[0,3,4],[0,4],[0,3,4],[0,3,4,5],[3]]
def qqp:=KF [[0,1],[0,1,4],[0,1,4,6],[4],[0,1,4,6],[4],[0,1,4,6],[0,1,4,6],[0,1,4,6,7],[4,6,7],[4],[4,6,7],[4],[4,6,7],[4],[4,6,7],[4],[4,7]]
def qrm:Nat→Nat→Option (List Nat × Nat)
 | 3=>kf3
 | 5=>kf5
 | 6=>kf6
 | 7=>kf7
 | 8=>kf8
 | 9=>kf9
 | 10=>qrl
 | 11=>qrc
 | 12=>qqQ
 | 13=>qqO
 | 14=>qqL
 | 16=>qqA
 | 17=>qq6
 | 18=>qq0
 | 19=>qqv
 | 20=>qqq
 | 21=>qqo
 | 22=>qqn
 | 23=>qqm
 | 24=>qql
 | 25=>qqk
 | 26=>qqj
 | 27=>qqi
 | 28=>qqh
 | 29=>qqg
 | 30=>qqe
 | 31=>qqd
 | 32=>qqc
 | 33=>qqb
 | 34=>qqa
 | 35=>qpZ
 | 37=>qpY
 | 39=>qpX
 | 40=>qpW
 | 41=>qpV
 | 42=>qpU
 | 43=>qpT
 | 44=>qpS
 | 45=>qpR
 | 46=>qpQ
 | 47=>qpP
 | 48=>qpO
 | 49=>qpN
 | 50=>qpL
 | 51=>qpK
 | 52=>qpJ
 | 53=>qpI
 | 54=>qpH
 | 55=>qpG
 | 56=>qpF
 | 58=>qpE
 | 59=>qpD
 | 61=>qpB
 | 62=>qpA
 | 63=>qp9
 | 64=>qp8
 | 67=>qp7
 | 68=>qp6
 | 69=>qp5
 | 70=>qp3
 | 71=>qp2
 | 72=>qp1
 | 73=>qp0
 | 74=>qpz
 | 75=>qpy
 | 76=>qpx
 | 77=>qpw
 | 78=>qpv
 | 79=>qpu
 | 80=>qps
 | 81=>qpr
 | 82=>qpq
 | 83=>qpp
 | 84=>qpo
 | 85=>qpn
 | 86=>qpm
 | 95=>qpk
 | 96=>qpj
 | 97=>qpi
 | 98=>qph
 | 99=>qpg
 | 101=>qrk
 | 103=>qrj
 | 104=>qri
 | 105=>qrh
 | 106=>qrg
 | 107=>qrf
 | 108=>qre
 | 109=>qrd
 | 110=>qrb
 | 111=>qra
 | 112=>qqZ
 | 113=>qqY
 | 114=>qqX
 | 115=>qqW
 | 116=>qqV
 | 117=>qqU
 | 118=>qqS
 | 119=>qqR
 | 123=>qqP
 | 139=>qqM
 | 140=>qqK
 | 141=>qqJ
 | 142=>qqI
 | 143=>qqH
 | 149=>qqG
 | 151=>qqF
 | 152=>qqE
 | 155=>qqD
 | 158=>qqC
 | 159=>qqB
 | 160=>qq9
 | 161=>qq8
 | 162=>qq7
 | 175=>qq5
 | 176=>qq4
 | 177=>qq3
 | 178=>qq2
 | 179=>qq1
 | 181=>qqz
 | 182=>qqy
 | 183=>qqx
 | 184=>qqw
 | 192=>qqu
 | 196=>qqt
 | 198=>qqs
 | 199=>qqr
 | 202=>qqp
 | _=>fun _=>none
def qtO:Nat→Nat→List Nat
 | 8,8=>[11]
 | 53,15=>[17]
 | _,_=>[]
def qtL:Nat→Nat→List Nat
 | 53,15=>[16]
 | 53,19=>[16,17]
 | 53,24=>[15]
 | 116,1=>[2]
 | _,_=>[]
def qnf:Nat→Nat→List Nat
 | 22,3=>[3]
 | 73,5=>[5]
 | 74,5=>[4]
 | 75,3=>[5]
 | 80,4=>[1,3]
 | 84,4=>[5]
 | 85,4=>[3]
 | 108,5=>[5]
 | 199,4=>[3]
 | _,_=>[]
def cvT:Nat→Nat→Bool
 | _,_=>false
def lpT:Nat→Nat→Option (List (Nat × Nat) × List Nat)
 | 3,24=>some ([(33,38)],[])
 | 8,8=>some ([(1,5)],[])
 | 19,2=>some ([(2,0)],[])
 | 49,2=>some ([(8,4)],[])
 | 49,4=>some ([(8,4)],[])
 | 53,18=>some ([],[95])
 | 53,30=>some ([(20,16)],[])
 | 55,6=>some ([(5,7),(5,8)],[])
 | 111,1=>some ([(7,4)],[])
 | 114,9=>some ([(18,4)],[])
 | 178,1=>some ([],[15])
 | 179,1=>some ([],[66])
 | _,_=>none
def alT:Nat→Nat→Option Nat
 | 181,1=>some 9
 | _,_=>none
def qoL:Nat→Bool
 | 5=>true
 | 17=>true
 | 50=>true
 | 51=>true
 | 75=>true
 | 111=>true
 | _=>false
def qoK:Nat→Bool
 | _=>false
def grT:Nat→Bool
 | 5=>true
 | 7=>true
 | 8=>true
 | 9=>true
 | 10=>true
 | 11=>true
 | 12=>true
 | 13=>true
 | 19=>true
 | 21=>true
 | 24=>true
 | 25=>true
 | 26=>true
 | 28=>true
 | 29=>true
 | 30=>true
 | 31=>true
 | 32=>true
 | 33=>true
 | 36=>true
 | 37=>true
 | 48=>true
 | 49=>true
 | 52=>true
 | 53=>true
 | 58=>true
 | 61=>true
 | 76=>true
 | 77=>true
 | 79=>true
 | 82=>true
 | 83=>true
 | 98=>true
 | 99=>true
 | 113=>true
 | 114=>true
 | 178=>true
 | 179=>true
 | _=>false
def qnz:Nat→Bool
 | 20=>true
 | 73=>true
 | 78=>true
 | 80=>true
 | 108=>true
 | 112=>true
 | 115=>true
 | 119=>true
 | 158=>true
 | _=>false
def qvK:Nat→Bool
 | 5=>true
 | 7=>true
 | 8=>true
 | 9=>true
 | 10=>true
 | 11=>true
 | 12=>true
 | 13=>true
 | 17=>true
 | 19=>true
 | 21=>true
 | 24=>true
 | 25=>true
 | 26=>true
 | 28=>true
 | 29=>true
 | 30=>true
 | 31=>true
 | 32=>true
 | 33=>true
 | 36=>true
 | 37=>true
 | 48=>true
 | 49=>true
 | 50=>true
 | 51=>true
 | 52=>true
 | 53=>true
 | 58=>true
 | 60=>true
 | 61=>true
 | 75=>true
 | 76=>true
 | 77=>true
 | 79=>true
 | 82=>true
 | 83=>true
 | 98=>true
 | 99=>true
 | 111=>true
 | 113=>true
 | 114=>true
 | 122=>true
 | 178=>true
 | 179=>true
 | 180=>true
 | 181=>true
 | _=>false
def qvT:Nat→Bool
 | 2=>true
 | 57=>true
 | 60=>true
 | 87=>true
 | 88=>true
 | 89=>true
 | 90=>true
 | 91=>true
 | 92=>true
 | 93=>true
 | 94=>true
 | 124=>true
 | 125=>true
 | 126=>true
 | 127=>true
 | 128=>true
 | 129=>true
 | 130=>true
 | 131=>true
 | 132=>true
 | 133=>true
 | 134=>true
 | 135=>true
 | 136=>true
 | 137=>true
 | 147=>true
 | 169=>true
 | 170=>true
 | 171=>true
 | 172=>true
 | 173=>true
 | 174=>true
 | 187=>true
 | 188=>true
 | 189=>true
 | 195=>true
 | 197=>true
 | 200=>true
 | 237=>true
 | _=>false
def qnq:Nat→Bool
 | 6=>true
 | 14=>true
 | 16=>true
 | 18=>true
 | 22=>true
 | 23=>true
 | 35=>true
 | 39=>true
 | 40=>true
 | 41=>true
 | 43=>true
 | 44=>true
 | 45=>true
 | 46=>true
 | 47=>true
 | 56=>true
 | 57=>true
 | 64=>true
 | 71=>true
 | 72=>true
 | 78=>true
 | 81=>true
 | 86=>true
 | 96=>true
 | 97=>true
 | 103=>true
 | 104=>true
 | 105=>true
 | 109=>true
 | 110=>true
 | 115=>true
 | 116=>true
 | 117=>true
 | 118=>true
 | 123=>true
 | 141=>true
 | 142=>true
 | 149=>true
 | 155=>true
 | 159=>true
 | 160=>true
 | 161=>true
 | 162=>true
 | 165=>true
 | 166=>true
 | 177=>true
 | 189=>true
 | 192=>true
 | 194=>true
 | 196=>true
 | 202=>true
 | _=>false
def qt0:Nat→Bool
 | 5=>false
 | 9=>false
 | 15=>false
 | 19=>false
 | 24=>false
 | 27=>false
 | 28=>false
 | 34=>false
 | 49=>false
 | 54=>false
 | 55=>false
 | 58=>false
 | 59=>false
 | 76=>false
 | 85=>false
 | 178=>false
 | 179=>false
 | _=>true
def qfM:Nat→List D→Option D
 | 148=>qcd
 | 146=>qcz
 | _=>fun _=>none
def qgc [TxtC]:Nat→List D→qd→Option (D × qd)
 | 147=>qcw
 | 189=>qcx
 | 57=>qcv
 | 180=>TxtC.t 180
 | 60=>qcu
 | _=>fun _ _=>none
def gz0:List Int:=[1,10,100,1000,10000,100000,1000000,10000000,100000000,1000000000,10000000000,100000000000,1000000000000,10000000000000,100000000000000,1000000000000000,10000000000000000,100000000000000000,1000000000000000000,10000000000000000000]
def gd0:List D:=gz0.map (D.int .u64)
def XP:List UInt8:=[105,110,118,97,108,105,100,32,115,121,110,116,97,120]
def gs3:List UInt8:=[118,97,108,117,101,32,111,117,116,32,111,102,32,114,97,110,103,101]
def gz6:List Int:=[0,1,28,2,29,14,24,3,30,22,20,15,25,17,4,8,31,27,13,23,21,19,16,7,26,12,18,6,11,5,10,9]
def gd6:List D:=gz6.map (D.int .u8)
def gz7:List Int:=[0,1,56,2,57,49,28,3,61,58,42,50,38,29,17,4,62,47,59,36,45,43,51,22,53,39,33,30,24,18,12,5,63,55,48,27,60,41,37,16,46,35,44,21,52,32,23,11,54,26,40,15,34,20,31,10,25,14,19,9,13,8,7,6]
def gd7:List D:=gz7.map (D.int .u8)
def qfA [MaxL]:Nat→Option (List D)
 | 0=>some gd0
 | 2=>some [.iface 286 (.vptr [.str XP])]
 | 3=>some [.iface 286 (.vptr [.str gs3])]
 | 6=>some gd6
 | 7=>some gd7
 | 1=>some [.int .i64 MaxL.m]
 | _=>none
noncomputable def cx [MaxL] [TxtC]:Cx:={ P:=Tryz.prog,glob:=qfA,keep:=qrm,byRef:=qvK,pureF:=qnq,ext:=qfM,bad:=qvT,frz:=qtL,ret:=qnf,fzr:=qt0,con:=qgc,perm:=qnz,dynV:=true,cv:=cvT,lp:=lpT,loc:=qoL,frb:=qtO,al:=alT,lom:=qoK,gr:=grT }
abbrev EN [MaxL] [TxtC] (f r:Nat) (s:List Nat) (k:Nat):Prop:= ∀ (n0:Nat) (e:qn) (H:qd),enter cx f n0 r e H = qbq s k n0 e H
abbrev qb [MaxL] [TxtC] (f r:Nat) (s:List Nat):Prop:=EN f r s 0
abbrev CV [MaxL] [TxtC] (f:Nat):Prop:= ∀ id,cx.cv f id = false
abbrev LP [MaxL] [TxtC] (f:Nat):Prop:= ∀ id,cx.lp f id = none
abbrev FA [MaxL] [TxtC] (f:Nat) (b p u:Bool):Prop:=cx.byRef f = b∧cx.perm f = p∧cx.pureF f = u
abbrev FZ [MaxL] [TxtC] (f:Nat) (b p u z:Bool):Prop:=FA f b p u∧cx.fzr f = z
abbrev qu [MaxL] [TxtC] (f r:Nat):Prop:=cx.lp f r = none
abbrev vU [MaxL] [TxtC] (f:Nat):Prop:=FZ f false false false true
abbrev vv [MaxL] [TxtC] (f:Nat):Prop:=FA f false false false
abbrev zM [MaxL] [TxtC] (f:Nat):Prop:=FA f true false false
abbrev qaT [MaxL] [TxtC] (f:Nat):Prop:=cx.loc f = true
abbrev qaS [MaxL] [TxtC] (f:Nat):Prop:=cx.lom f = false
abbrev zU [MaxL] [TxtC] (f:Nat):Prop:=FZ f false false true true
abbrev jg [MaxL] [TxtC] (f:Nat):Prop:=cx.loc f = false
abbrev qaw [MaxL] [TxtC] (f:Nat):Prop:=FZ f false true false true
abbrev qaU [MaxL] [TxtC] (f:Nat):Prop:=FZ f false false false false
abbrev qbR [MaxL] [TxtC] (f:Nat):Prop:=FA f false false true
abbrev qhC [MaxL] [TxtC] (f:Nat):Prop:=FZ f false true true true
section
variable [MaxL] [TxtC]
@[simp] theorem ng1:CV 3∧CV 5∧CV 6∧CV 7∧CV 8∧CV 9∧CV 10∧CV 11∧CV 12∧CV 13∧CV 14∧CV 16∧CV 17∧CV 18∧CV 19∧CV 20∧CV 21∧CV 22∧CV 23∧CV 24∧CV 25∧CV 26∧CV 27∧CV 28∧CV 29∧CV 30∧CV 31∧CV 32∧CV 33∧CV 34:=by and_intros<;>exact fun _=>rfl
@[simp] theorem ng2:CV 35∧CV 37∧CV 39∧CV 40∧CV 41∧CV 42∧CV 43∧CV 44∧CV 45∧CV 46∧CV 47∧CV 48∧CV 49∧CV 50∧CV 51∧CV 52∧CV 53∧CV 54∧CV 55∧CV 56∧CV 58∧CV 59∧CV 61∧CV 62∧CV 63∧CV 64∧CV 67∧CV 68∧CV 69∧CV 70:=by and_intros<;>exact fun _=>rfl
@[simp] theorem ng3:CV 71∧CV 72∧CV 73∧CV 74∧CV 75∧CV 76∧CV 77∧CV 78∧CV 79∧CV 80∧CV 81∧CV 82∧CV 83∧CV 84∧CV 85∧CV 86∧CV 95∧CV 96∧CV 97∧CV 98∧CV 99∧CV 101∧CV 103∧CV 104∧CV 105∧CV 106∧CV 107∧CV 108∧CV 109∧CV 110:=by and_intros<;>exact fun _=>rfl
@[simp] theorem ng4:CV 111∧CV 112∧CV 113∧CV 114∧CV 115∧CV 116∧CV 117∧CV 118∧CV 119∧CV 123∧CV 139∧CV 140∧CV 141∧CV 142∧CV 143∧CV 149∧CV 151∧CV 152∧CV 155∧CV 158∧CV 159∧CV 160∧CV 161∧CV 162∧CV 175∧CV 176∧CV 177∧CV 178∧CV 179∧CV 181:=by and_intros<;>exact fun _=>rfl
@[simp] theorem ng5:CV 182∧CV 183∧CV 184∧CV 192∧CV 196∧CV 198∧CV 199∧CV 202:=by and_intros<;>exact fun _=>rfl
@[simp] theorem qs1:qu 3 0∧qu 3 1∧qu 3 2∧qu 3 3∧qu 3 4∧qu 3 5∧qu 3 6∧qu 3 7∧qu 3 8∧qu 3 9∧qu 3 10∧qu 3 11∧qu 3 12∧qu 3 13∧qu 3 14∧qu 3 15∧qu 3 16∧qu 3 17∧qu 3 18∧qu 3 19∧qu 3 20∧qu 3 21∧qu 3 22∧qu 3 23:=by and_intros<;>rfl
@[simp] theorem q3e:cx.lp 3 24 = some ([(33,38)],[]):=rfl
@[simp] theorem qs2:qu 3 25∧qu 3 26∧qu 3 27∧qu 3 28∧qu 3 29∧qu 3 30:=by and_intros<;>rfl
@[simp] theorem ng6:LP 5∧LP 6∧LP 7:=by and_intros<;>exact fun _=>rfl
@[simp] theorem qs3:qu 8 0∧qu 8 1∧qu 8 2∧qu 8 3∧qu 8 4∧qu 8 5∧qu 8 6∧qu 8 7:=by and_intros<;>rfl
@[simp] theorem q2U:cx.lp 8 8 = some ([(1,5)],[]):=rfl
@[simp] theorem qs4:qu 8 9∧qu 8 10∧qu 8 11∧qu 8 12∧qu 8 13∧qu 8 14∧qu 8 15∧qu 8 16:=by and_intros<;>rfl
@[simp] theorem ng7:LP 9∧LP 10∧LP 11∧LP 12∧LP 13∧LP 14∧LP 16∧LP 17∧LP 18:=by and_intros<;>exact fun _=>rfl
@[simp] theorem qs5:qu 19 0∧qu 19 1:=by and_intros<;>rfl
@[simp] theorem q3f:cx.lp 19 2 = some ([(2,0)],[]):=rfl
@[simp] theorem qs6:qu 19 3∧qu 19 4∧qu 19 5∧qu 19 6∧qu 19 7∧qu 19 8∧qu 19 9:=by and_intros<;>rfl
@[simp] theorem ng8:LP 20∧LP 21∧LP 22∧LP 23∧LP 24∧LP 25∧LP 26∧LP 27∧LP 28∧LP 29∧LP 30∧LP 31∧LP 32∧LP 33∧LP 34∧LP 35∧LP 37∧LP 39∧LP 40∧LP 41∧LP 42∧LP 43∧LP 44∧LP 45∧LP 46∧LP 47∧LP 48:=by and_intros<;>exact fun _=>rfl
@[simp] theorem qs7:qu 49 0∧qu 49 1:=by and_intros<;>rfl
@[simp] theorem q3d:cx.lp 49 2 = some ([(8,4)],[]):=rfl
@[simp] theorem qs8:qu 49 3:=by and_intros<;>rfl
@[simp] theorem q2Z:cx.lp 49 4 = some ([(8,4)],[]):=rfl
@[simp] theorem qs9:qu 49 5∧qu 49 6∧qu 49 7∧qu 49 8∧qu 49 9∧qu 49 10∧qu 49 11∧qu 49 12∧qu 49 13∧qu 49 14∧qu 49 15∧qu 49 16:=by and_intros<;>rfl
@[simp] theorem ng9:LP 50∧LP 51∧LP 52:=by and_intros<;>exact fun _=>rfl
@[simp] theorem q0f:qu 53 0∧qu 53 1∧qu 53 2∧qu 53 3∧qu 53 4∧qu 53 5∧qu 53 6∧qu 53 7∧qu 53 8∧qu 53 9∧qu 53 10∧qu 53 11∧qu 53 12∧qu 53 13∧qu 53 14∧qu 53 15∧qu 53 16∧qu 53 17:=by and_intros<;>rfl
@[simp] theorem q2Y:cx.lp 53 18 = some ([],[95]):=rfl
@[simp] theorem q0e:qu 53 19∧qu 53 20∧qu 53 21∧qu 53 22∧qu 53 23∧qu 53 24∧qu 53 25∧qu 53 26∧qu 53 27∧qu 53 28∧qu 53 29:=by and_intros<;>rfl
@[simp] theorem q2X:cx.lp 53 30 = some ([(20,16)],[]):=rfl
@[simp] theorem q0d:qu 53 31∧qu 53 32∧qu 53 33∧qu 53 34∧qu 53 35∧qu 53 36∧qu 53 37∧qu 53 38∧qu 53 39∧qu 53 40∧qu 53 41∧qu 53 42∧qu 53 43∧qu 53 44∧qu 53 45∧qu 53 46∧qu 53 47∧qu 53 48∧qu 53 49:=by and_intros<;>rfl
@[simp] theorem q2W (id:Nat):cx.lp 54 id = none:=rfl
@[simp] theorem q0c:qu 55 0∧qu 55 1∧qu 55 2∧qu 55 3∧qu 55 4∧qu 55 5:=by and_intros<;>rfl
@[simp] theorem q2V:cx.lp 55 6 = some ([(5,7),(5,8)],[]):=rfl
@[simp] theorem q0b:qu 55 7:=by and_intros<;>rfl
@[simp] theorem q2F:LP 56∧LP 58∧LP 59∧LP 61∧LP 62∧LP 63∧LP 64∧LP 67∧LP 68∧LP 69∧LP 70∧LP 71∧LP 72∧LP 73∧LP 74∧LP 75∧LP 76∧LP 77∧LP 78∧LP 79∧LP 80∧LP 81∧LP 82∧LP 83∧LP 84∧LP 85∧LP 86∧LP 95∧LP 96∧LP 97:=by and_intros<;>exact fun _=>rfl
@[simp] theorem q24:LP 98∧LP 99∧LP 101∧LP 103∧LP 104∧LP 105∧LP 106∧LP 107∧LP 108∧LP 109∧LP 110:=by and_intros<;>exact fun _=>rfl
@[simp] theorem q0a:qu 111 0:=by and_intros<;>rfl
@[simp] theorem q3j:cx.lp 111 1 = some ([(7,4)],[]):=rfl
@[simp] theorem q2u:LP 112∧LP 113:=by and_intros<;>exact fun _=>rfl
@[simp] theorem qzZ:qu 114 0∧qu 114 1∧qu 114 2∧qu 114 3∧qu 114 4∧qu 114 5∧qu 114 6∧qu 114 7∧qu 114 8:=by and_intros<;>rfl
@[simp] theorem q3i:cx.lp 114 9 = some ([(18,4)],[]):=rfl
@[simp] theorem qzY:qu 114 10∧qu 114 11∧qu 114 12:=by and_intros<;>rfl
@[simp] theorem q2j:LP 115∧LP 116∧LP 117∧LP 118∧LP 119∧LP 123∧LP 139∧LP 140∧LP 141∧LP 142∧LP 143∧LP 149∧LP 151∧LP 152∧LP 155∧LP 158∧LP 159∧LP 160∧LP 161∧LP 162∧LP 175∧LP 176∧LP 177:=by and_intros<;>exact fun _=>rfl
@[simp] theorem qzX:qu 178 0:=by and_intros<;>rfl
@[simp] theorem q3h:cx.lp 178 1 = some ([],[15]):=rfl
@[simp] theorem qzW:qu 179 0:=by and_intros<;>rfl
@[simp] theorem q3g:cx.lp 179 1 = some ([],[66]):=rfl
@[simp] theorem q1Y:LP 181∧LP 182∧LP 183∧LP 184∧LP 192∧LP 196∧LP 198∧LP 199∧LP 202:=by and_intros<;>exact fun _=>rfl
end
def qgv [MaxL] [TxtC]:Prop:= ∀ {f:Nat} {args:List D} {H:qd} {r:D} {H':qd},TxtC.t f args H = some (r,H')→∀ {ok:Nat→Prop} {w:World} {ι:qz} {vs:List Value},Sim cx ok w ι H→RepL ok w ι H args vs→Goes cx.P (callFunc f vs.toArray) w (CallPost cx ok w ι H r H')
section
variable [MaxL] [TxtC]
@[simp] theorem cxP:cx.P = Tryz.prog:=rfl
@[simp] theorem cxD:cx.dynV = true:=rfl
@[simp] theorem gl0:cx.glob 0 = some gd0:=rfl
@[simp] theorem gl2:cx.glob 2 = some [.iface 286 (.vptr [.str XP])]:=rfl
@[simp] theorem gl3:cx.glob 3 = some [.iface 286 (.vptr [.str gs3])]:=rfl
@[simp] theorem gl6:cx.glob 6 = some gd6:=rfl
@[simp] theorem gl7:cx.glob 7 = some gd7:=rfl
@[simp] theorem qzU:vU 3∧vv 4∧zM 5∧qaT 5:=by and_intros<;>rfl
@[simp] theorem gr5:cx.gr 5 = true:=rfl
@[simp] theorem qzT:qaS 5:=by and_intros<;>rfl
@[simp] theorem fz5:cx.fzr 5 = false:=rfl
@[simp] theorem qzS:zU 6∧zM 7∧jg 7:=by and_intros<;>rfl
@[simp] theorem gr7:cx.gr 7 = true:=rfl
@[simp] theorem fz7:cx.fzr 7 = true:=rfl
@[simp] theorem qzR:zM 8∧jg 8:=by and_intros<;>rfl
@[simp] theorem gr8:cx.gr 8 = true:=rfl
@[simp] theorem fz8:cx.fzr 8 = true:=rfl
@[simp] theorem qzQ:zM 9∧jg 9:=by and_intros<;>rfl
@[simp] theorem gr9:cx.gr 9 = true:=rfl
@[simp] theorem fz9:cx.fzr 9 = false:=rfl
@[simp] theorem qzP:zM 10∧jg 10:=by and_intros<;>rfl
@[simp] theorem q3V:cx.gr 10 = true:=rfl
@[simp] theorem q4I:cx.fzr 10 = true:=rfl
@[simp] theorem qzO:zM 11∧jg 11:=by and_intros<;>rfl
@[simp] theorem gr11:cx.gr 11 = true:=rfl
@[simp] theorem q4H:cx.fzr 11 = true:=rfl
@[simp] theorem qzN:zM 12∧jg 12:=by and_intros<;>rfl
@[simp] theorem q3R:cx.gr 12 = true:=rfl
@[simp] theorem q4C:cx.fzr 12 = true:=rfl
@[simp] theorem qzM:zM 13∧jg 13:=by and_intros<;>rfl
@[simp] theorem q3P:cx.gr 13 = true:=rfl
@[simp] theorem q4B:cx.fzr 13 = true:=rfl
@[simp] theorem qzL:zU 14∧vv 15∧zU 16∧zM 17∧qaT 17:=by and_intros<;>rfl
@[simp] theorem q3O:cx.gr 17 = false:=rfl
@[simp] theorem qzJ:qaS 17:=by and_intros<;>rfl
@[simp] theorem q4A:cx.fzr 17 = true:=rfl
@[simp] theorem qzI:zU 18∧zM 19∧jg 19:=by and_intros<;>rfl
@[simp] theorem q3J:cx.gr 19 = true:=rfl
@[simp] theorem q46:cx.fzr 19 = false:=rfl
@[simp] theorem qzH:qaw 20∧zM 21∧jg 21:=by and_intros<;>rfl
@[simp] theorem q3I:cx.gr 21 = true:=rfl
@[simp] theorem q45:cx.fzr 21 = true:=rfl
@[simp] theorem qzG:zU 22∧zU 23∧zM 24∧jg 24:=by and_intros<;>rfl
@[simp] theorem q3H:cx.gr 24 = true:=rfl
@[simp] theorem q44:cx.fzr 24 = false:=rfl
@[simp] theorem qzF:zM 25∧jg 25:=by and_intros<;>rfl
@[simp] theorem q3G:cx.gr 25 = true:=rfl
@[simp] theorem q43:cx.fzr 25 = true:=rfl
@[simp] theorem qzE:zM 26∧jg 26:=by and_intros<;>rfl
@[simp] theorem q3F:cx.gr 26 = true:=rfl
@[simp] theorem q42:cx.fzr 26 = true:=rfl
@[simp] theorem qzD:qaU 27∧zM 28∧jg 28:=by and_intros<;>rfl
@[simp] theorem q3E:cx.gr 28 = true:=rfl
@[simp] theorem q41:cx.fzr 28 = false:=rfl
@[simp] theorem qzC:zM 29∧jg 29:=by and_intros<;>rfl
@[simp] theorem q3D:cx.gr 29 = true:=rfl
@[simp] theorem q40:cx.fzr 29 = true:=rfl
@[simp] theorem qzB:zM 30∧jg 30:=by and_intros<;>rfl
@[simp] theorem q3C:cx.gr 30 = true:=rfl
@[simp] theorem q4z:cx.fzr 30 = true:=rfl
@[simp] theorem qzA:zM 31∧jg 31:=by and_intros<;>rfl
@[simp] theorem q3B:cx.gr 31 = true:=rfl
@[simp] theorem q4y:cx.fzr 31 = true:=rfl
@[simp] theorem qz8:zM 32∧jg 32:=by and_intros<;>rfl
@[simp] theorem q3A:cx.gr 32 = true:=rfl
@[simp] theorem q4x:cx.fzr 32 = true:=rfl
@[simp] theorem qz7:zM 33∧jg 33:=by and_intros<;>rfl
@[simp] theorem q39:cx.gr 33 = true:=rfl
@[simp] theorem q4w:cx.fzr 33 = true:=rfl
@[simp] theorem qz6:qaU 34∧zU 35∧zM 36∧jg 36:=by and_intros<;>rfl
@[simp] theorem q38:cx.gr 36 = true:=rfl
@[simp] theorem qz5:zM 37∧jg 37:=by and_intros<;>rfl
@[simp] theorem q37:cx.gr 37 = true:=rfl
@[simp] theorem q4v:cx.fzr 37 = true:=rfl
@[simp] theorem qz4:vv 38∧zU 39∧zU 40∧zU 41∧vU 42∧zU 43∧zU 44∧zU 45∧zU 46∧zU 47∧zM 48∧jg 48:=by and_intros<;>rfl
@[simp] theorem q36:cx.gr 48 = true:=rfl
@[simp] theorem q4u:cx.fzr 48 = true:=rfl
@[simp] theorem qz3:zM 49∧jg 49:=by and_intros<;>rfl
@[simp] theorem q32:cx.gr 49 = true:=rfl
@[simp] theorem q4t:cx.fzr 49 = false:=rfl
@[simp] theorem qz2:zM 50∧qaT 50:=by and_intros<;>rfl
@[simp] theorem q30:cx.gr 50 = false:=rfl
@[simp] theorem qz1:qaS 50:=by and_intros<;>rfl
@[simp] theorem q4r:cx.fzr 50 = true:=rfl
@[simp] theorem qz0:zM 51∧qaT 51:=by and_intros<;>rfl
@[simp] theorem q3z:cx.gr 51 = false:=rfl
@[simp] theorem qzz:qaS 51:=by and_intros<;>rfl
@[simp] theorem q4q:cx.fzr 51 = true:=rfl
@[simp] theorem qzx:zM 52∧jg 52:=by and_intros<;>rfl
@[simp] theorem q3y:cx.gr 52 = true:=rfl
@[simp] theorem q4p:cx.fzr 52 = true:=rfl
@[simp] theorem qzw:zM 53∧jg 53:=by and_intros<;>rfl
@[simp] theorem q3x:cx.gr 53 = true:=rfl
@[simp] theorem q4o:cx.fzr 53 = true:=rfl
@[simp] theorem qzv:qaU 54∧qaU 55∧zU 56∧qbR 57∧zM 58∧jg 58:=by and_intros<;>rfl
@[simp] theorem q3w:cx.gr 58 = true:=rfl
@[simp] theorem q4n:cx.fzr 58 = false:=rfl
@[simp] theorem qzu:qaU 59∧zM 60∧jg 60:=by and_intros<;>rfl
@[simp] theorem q3v:cx.gr 60 = false:=rfl
@[simp] theorem qzt:zM 61∧jg 61:=by and_intros<;>rfl
@[simp] theorem q3u:cx.gr 61 = true:=rfl
@[simp] theorem q4m:cx.fzr 61 = true:=rfl
@[simp] theorem qzs:vU 62∧vU 63∧zU 64∧vv 65∧vv 66∧vU 67∧vU 68∧vU 69∧vU 70∧zU 71∧zU 72∧qaw 73∧vU 74∧zM 75∧qaT 75:=by and_intros<;>rfl
@[simp] theorem q3s:cx.gr 75 = false:=rfl
@[simp] theorem qzr:qaS 75:=by and_intros<;>rfl
@[simp] theorem q4k:cx.fzr 75 = true:=rfl
@[simp] theorem qzq:zM 76∧jg 76:=by and_intros<;>rfl
@[simp] theorem q3r:cx.gr 76 = true:=rfl
@[simp] theorem q4j:cx.fzr 76 = false:=rfl
@[simp] theorem qzp:zM 77∧jg 77:=by and_intros<;>rfl
@[simp] theorem q3q:cx.gr 77 = true:=rfl
@[simp] theorem q4i:cx.fzr 77 = true:=rfl
@[simp] theorem qzo:qhC 78∧zM 79∧jg 79:=by and_intros<;>rfl
@[simp] theorem q3p:cx.gr 79 = true:=rfl
@[simp] theorem q4h:cx.fzr 79 = true:=rfl
@[simp] theorem qzm:qaw 80∧zU 81∧zM 82∧jg 82:=by and_intros<;>rfl
@[simp] theorem q3o:cx.gr 82 = true:=rfl
@[simp] theorem q4f:cx.fzr 82 = true:=rfl
@[simp] theorem qzl:zM 83∧jg 83:=by and_intros<;>rfl
@[simp] theorem q3n:cx.gr 83 = true:=rfl
@[simp] theorem q4e:cx.fzr 83 = true:=rfl
@[simp] theorem qzk:vU 84∧qaU 85∧zU 86∧vU 95∧zU 96∧zU 97∧zM 98∧jg 98:=by and_intros<;>rfl
@[simp] theorem q3m:cx.gr 98 = true:=rfl
@[simp] theorem q4c:cx.fzr 98 = true:=rfl
@[simp] theorem qzj:zM 99∧jg 99:=by and_intros<;>rfl
@[simp] theorem q3l:cx.gr 99 = true:=rfl
@[simp] theorem q4b:cx.fzr 99 = true:=rfl
@[simp] theorem qzi:vv 100∧vU 101∧vv 102∧zU 103∧zU 104∧zU 105∧vU 106∧vU 107∧qaw 108∧zU 109∧zU 110∧zM 111∧qaT 111:=by and_intros<;>rfl
@[simp] theorem q3U:cx.gr 111 = false:=rfl
@[simp] theorem qzh:qaS 111:=by and_intros<;>rfl
@[simp] theorem q4G:cx.fzr 111 = true:=rfl
@[simp] theorem qzg:qaw 112∧zM 113∧jg 113:=by and_intros<;>rfl
@[simp] theorem q3T:cx.gr 113 = true:=rfl
@[simp] theorem q4F:cx.fzr 113 = true:=rfl
@[simp] theorem qzf:zM 114∧jg 114:=by and_intros<;>rfl
@[simp] theorem q3S:cx.gr 114 = true:=rfl
@[simp] theorem q4E:cx.fzr 114 = true:=rfl
@[simp] theorem qze:qhC 115∧zU 116∧zU 117∧zU 118∧qaw 119∧vv 120∧vv 121∧zM 122∧jg 122:=by and_intros<;>rfl
@[simp] theorem q3Q:cx.gr 122 = false:=rfl
@[simp] theorem qzd:zU 123∧vv 138∧vU 139∧vU 140∧zU 141∧zU 142∧vU 143∧vv 144∧vv 145∧vv 146∧vv 147∧vv 148∧zU 149∧vv 150∧vU 151∧vU 152∧vv 153∧vv 154∧zU 155∧vv 156∧vv 157∧qaw 158∧zU 159∧zU 160∧zU 161∧zU 162∧vv 163∧vv 164∧qbR 165∧qbR 166∧vU 175∧vU 176∧zU 177∧zM 178∧jg 178:=by and_intros<;>rfl
@[simp] theorem q3N:cx.gr 178 = true:=rfl
@[simp] theorem q49:cx.fzr 178 = false:=rfl
@[simp] theorem qzb:zM 179∧jg 179:=by and_intros<;>rfl
@[simp] theorem q3M:cx.gr 179 = true:=rfl
@[simp] theorem q48:cx.fzr 179 = false:=rfl
@[simp] theorem qza:zM 180∧jg 180:=by and_intros<;>rfl
@[simp] theorem q3L:cx.gr 180 = false:=rfl
@[simp] theorem qyZ:zM 181∧jg 181:=by and_intros<;>rfl
@[simp] theorem q3K:cx.gr 181 = false:=rfl
@[simp] theorem q47:cx.fzr 181 = true:=rfl
@[simp] theorem qyY:vU 182∧vU 183∧vU 184∧vv 185∧qbR 189∧vv 190∧vv 191∧zU 192∧vv 193∧qbR 194∧zU 196∧vU 198∧vU 199∧vv 201∧zU 202∧vv 203:=by and_intros<;>rfl
end
theorem qjL [MaxL] [TxtC] (args:List D):cx.ext 148 args = qcd args:=rfl
theorem qjM [MaxL] [TxtC] (args:List D):cx.ext 146 args = qcz args:=rfl
theorem qk2 [MaxL] [TxtC] (args:List D) (H:qd):cx.con 147 args H = qcw args H:=rfl
theorem qk1 [MaxL] [TxtC] (args:List D) (H:qd):cx.con 189 args H = qcx args H:=rfl
theorem qk0 [MaxL] [TxtC] (args:List D) (H:qd):cx.con 57 args H = qcv args H:=rfl
theorem qvo [MaxL] [TxtC] (args:List D) (H:qd):cx.con 180 args H = TxtC.t 180 args H:=rfl
theorem qkz [MaxL] [TxtC] (args:List D) (H:qd):cx.con 60 args H = qcu args H:=rfl
end Go.Ev.S
namespace Go.Ev.S
open Go Go.Proofs Go.Ev
section
variable [MaxL] [TxtC]
@[simp] theorem q1P:qb 3 0 [0,1,2,3]∧qb 3 1 [0,2,3,5]∧qb 3 2 [0,2,3,5,9]∧qb 3 3 []∧qb 3 4 [0,2,3,5,9]∧qb 3 5 [9]∧qb 3 6 [0,2,3,5,9]∧qb 3 7 [0,2,3,5,9,10]∧qb 3 8 [0,2,3,5,9,10]∧qb 3 9 [0,2,3,5,9,10]∧qb 3 10 []∧qb 3 11 [0,2,3,5,9]∧qb 3 12 [2,3,5,9,11,12]∧qb 3 13 []∧qb 3 14 [2,3,5,9,11,12]∧qb 3 15 [3,9,11,12,13]∧qb 3 16 []∧qb 3 17 [9,11,12]∧qb 3 18 [9,11,12,14,15,16]∧qb 3 19 [9,11,14,15,16,17,18,19]∧qb 3 20 []∧qb 3 21 [9,11,14,17]∧qb 3 22 [9,11,14,17,20]∧qb 3 23 [9,11,14,17,20]∧qb 3 24 [9,11,14,17,20]∧qb 3 25 []∧qb 3 26 [9,11]∧qb 3 27 [9,11]∧qb 3 28 [9,11]∧qb 3 29 [9,11]∧qb 3 30 [9,23]:=by and_intros<;>exact fun _ _ _=>rfl
@[simp] theorem q1O:qb 5 0 [0,1,2]∧qb 5 1 [0,1,2]∧qb 5 2 [0,1,2,7]∧qb 5 3 []∧qb 5 4 [0,1,2,7]∧qb 5 5 [0,1,2,7,9]∧qb 5 6 [0,1,2,7,9]∧qb 5 7 [0,1,2,7,9]∧qb 5 8 [0,1,2,7,9,10]∧qb 5 9 [0,1,2,7,9,10,11]∧qb 5 10 [0,1,2,7,9,10,11,12]∧qb 5 11 [0,1,2,7,9,11,12,13]∧qb 5 12 [0,1,2,7,9,11,12,13]∧qb 5 13 [1,2,7]∧qb 5 14 [1,2,7,15]∧qb 5 15 [1,2,7,15]∧qb 5 16 [1,2,7,15]∧qb 5 17 [1,2,7,15]∧qb 5 18 [7]:=by and_intros<;>exact fun _ _ _=>rfl
@[simp] theorem q1N:qb 6 0 [0]∧qb 6 1 [1]∧qb 6 2 [1,4]∧qb 6 3 []∧qb 6 4 [1,4]∧qb 6 5 []∧qb 6 6 [1,4]∧qb 6 7 [1]∧qb 6 8 [1,4]∧qb 6 9 [1]∧qb 6 10 [1]∧qb 6 11 []:=by and_intros<;>exact fun _ _ _=>rfl
@[simp] theorem q1M:qb 7 0 [0,1]∧qb 7 1 [0,1]∧qb 7 2 [0,1,6]∧qb 7 3 [0,1,6,7]∧qb 7 4 []∧qb 7 5 [0,1,6,7]∧qb 7 6 [6]∧qb 7 7 [0,1,7]∧qb 7 8 []∧qb 7 9 [0,1]∧qb 7 10 [0,1,9]∧qb 7 11 [9]∧qb 7 12 [0,1]∧qb 7 13 [0,10]∧qb 7 14 [0,10]∧qb 7 15 []:=by and_intros<;>exact fun _ _ _=>rfl
@[simp] theorem q1K:qb 8 0 [0,1,2,3]∧qb 8 1 [0,1,2,3]∧qb 8 2 [0,2,3,9,10]∧qb 8 3 [10]∧qb 8 4 [0,2,3,9]∧qb 8 5 [0,2,3,9,11]∧qb 8 6 [0,9,11,12]∧qb 8 7 [12]:=by and_intros<;>exact fun _ _ _=>rfl
end
@[simp] theorem q4N [MaxL] [TxtC] (n0:Nat) (e:qn) (H:qd):enter cx 8 n0 8 e H = qfU [11] (qbq [0,9,11] 0 n0 e) e H:=rfl
@[simp] theorem q1J [MaxL] [TxtC]:qb 8 9 [0,9,11,13]∧qb 8 10 [0,9,11,13,15]∧qb 8 11 []∧qb 8 12 [0,9,11]∧qb 8 13 [9,11,16]∧qb 8 14 [16]∧qb 8 15 [9,11]∧qb 8 16 []:=by and_intros<;>exact fun _ _ _=>rfl
@[simp] theorem q1I [MaxL] [TxtC]:qb 9 0 [0]∧qb 9 1 [0]∧qb 9 2 []∧qb 9 3 [0]∧qb 9 4 [0,5]∧qb 9 5 [0,5,6]∧qb 9 6 [0,5,6,18,19,20]∧qb 9 7 [0,5,6,18,19,20]∧qb 9 8 [0,5,6,8,18,19,20]∧qb 9 9 [0,5,6,8,9,10,18,19,20]∧qb 9 10 [0,5,6,8,9,18,19,20]∧qb 9 11 [0,5,6,8,9,11,18,19,20]∧qb 9 12 [0,5,6,8,9,13,14,18,19,20]∧qb 9 13 [0,5,6,8,18,19,20]∧qb 9 14 [0,5,6,8,9,13,18,19,20]∧qb 9 15 [0,5,6,18,19,20]∧qb 9 16 [5,6]:=by and_intros<;>exact fun _ _ _=>rfl
@[simp] theorem q1H [MaxL] [TxtC]:qb 10 0 [0]∧qb 10 1 [0,2]:=by and_intros<;>exact fun _ _ _=>rfl
@[simp] theorem q4Z [MaxL] [TxtC] (n0:Nat) (e:qn) (H:qd):enter cx 11 n0 0 e H = qbq [0,1] 0 n0 e H:=rfl
section
variable [MaxL] [TxtC]
@[simp] theorem q1G:qb 12 0 [0,1]∧qb 12 1 [0,1]∧qb 12 2 [0,5,6]∧qb 12 3 [0,5]∧qb 12 4 [5,6]∧qb 12 5 [6]∧qb 12 6 [5]∧qb 12 7 []:=by and_intros<;>exact fun _ _ _=>rfl
@[simp] theorem q1F:qb 13 0 [0]∧qb 13 1 [0]∧qb 13 2 [0,3]∧qb 13 3 [0]∧qb 13 4 [0,3]∧qb 13 5 [3]∧qb 13 6 [0]∧qb 13 7 []:=by and_intros<;>exact fun _ _ _=>rfl
@[simp] theorem q1E:qb 14 0 [0]∧qb 14 1 [0,2]∧qb 14 2 [0,2,4]∧qb 14 3 [2]∧qb 14 4 [0,2,4]∧qb 14 5 [2]∧qb 14 6 [0,2,4]∧qb 14 7 [0,2,4]∧qb 14 8 [0,2,4]∧qb 14 9 [0,2,4,5]∧qb 14 10 [0,2,4,6]∧qb 14 11 [2]∧qb 14 12 [0,2,4,6]∧qb 14 13 [0,2,4,6]∧qb 14 14 [0,2,4,6]∧qb 14 15 [0,2,4]∧qb 14 16 [2]∧qb 14 17 [2,4]:=by and_intros<;>exact fun _ _ _=>rfl
@[simp] theorem q1D:qb 16 0 [0]∧qb 16 1 [1]∧qb 16 2 [1,5]∧qb 16 3 []∧qb 16 4 [1,5]∧qb 16 5 []∧qb 16 6 [1,5]∧qb 16 7 [1,5]∧qb 16 8 [1]∧qb 16 9 [1,3]∧qb 16 10 [3]∧qb 16 11 [3]∧qb 16 12 []:=by and_intros<;>exact fun _ _ _=>rfl
@[simp] theorem q1C:qb 17 0 [0,1]∧qb 17 1 [0,1]∧qb 17 2 []∧qb 17 3 [0,1]∧qb 17 4 [0,1]:=by and_intros<;>exact fun _ _ _=>rfl
@[simp] theorem q1A:qb 18 0 [0]∧qb 18 1 [0,2]∧qb 18 2 [0,2,3]∧qb 18 3 [2,3]:=by and_intros<;>exact fun _ _ _=>rfl
@[simp] theorem q19:qb 19 0 [0,1]∧qb 19 1 [0,1]∧qb 19 2 [0,1,6]∧qb 19 3 [0,1,7]∧qb 19 4 [0,1,7,8]∧qb 19 5 [0,1,7,8]∧qb 19 6 [0,1,7,8,9]∧qb 19 7 [0,1,7,8,9,11]∧qb 19 8 [0,1,7,8,9]∧qb 19 9 [7,8]:=by and_intros<;>exact fun _ _ _=>rfl
@[simp] theorem q15:qb 20 0 [0,1,2]∧qb 20 1 [0,1,2]∧qb 20 2 [1,2,7]∧qb 20 3 [1,2,7,8]∧qb 20 4 [1,2,7,8]∧qb 20 5 [1,2,7,8]∧qb 20 6 [1,2,7,8,9]∧qb 20 7 [7]:=by and_intros<;>exact fun _ _ _=>rfl
@[simp] theorem q14:qb 21 0 [0,1]∧qb 21 1 [0,1]∧qb 21 2 [0,1,5]∧qb 21 3 [0,5]∧qb 21 4 [0,5]:=by and_intros<;>exact fun _ _ _=>rfl
@[simp] theorem q13:qb 22 0 [0]∧qb 22 1 [1]∧qb 22 2 [1,3]:=by and_intros<;>exact fun _ _ _=>rfl
end
@[simp] theorem q4X [MaxL] [TxtC] (n0:Nat) (e:qn) (H:qd):enter cx 22 n0 3 e H = Xe [] [3] [6,7] n0 e H:=rfl
section
variable [MaxL] [TxtC]
@[simp] theorem q12:qb 22 4 [3,6,7]∧qb 22 5 [3,5,6,7]∧qb 22 6 [3,6,7]∧qb 22 7 [3]:=by and_intros<;>exact fun _ _ _=>rfl
@[simp] theorem q11:qb 23 0 [0]∧qb 23 1 [0]∧qb 23 2 [3]:=by and_intros<;>exact fun _ _ _=>rfl
@[simp] theorem q10:qb 24 0 [0,1]∧qb 24 1 [0,1]∧qb 24 2 [0,1,6]∧qb 24 3 [6]∧qb 24 4 [0,1]∧qb 24 5 [7]∧qb 24 6 [7]∧qb 24 7 []:=by and_intros<;>exact fun _ _ _=>rfl
@[simp] theorem q1z:qb 25 0 [0]∧qb 25 1 [0]∧qb 25 2 [0,4,5]∧qb 25 3 [4,5,11,12,13]∧qb 25 4 [4,5,11,12,13]∧qb 25 5 [4,5,7,11,12,13]∧qb 25 6 [4,5,7,11,12,13]∧qb 25 7 [4,5,7,11,12,13]∧qb 25 8 [4,5,11,12,13]∧qb 25 9 [4,5]:=by and_intros<;>exact fun _ _ _=>rfl
@[simp] theorem q1y:qb 26 0 [0]∧qb 26 1 [0]∧qb 26 2 [0]∧qb 26 3 []∧qb 26 4 [0]∧qb 26 5 [0]∧qb 26 6 []:=by and_intros<;>exact fun _ _ _=>rfl
@[simp] theorem q1w:qb 27 0 []∧qb 27 1 []:=by and_intros<;>exact fun _ _ _=>rfl
@[simp] theorem q1v:qb 28 0 [0]∧qb 28 1 [0]:=by and_intros<;>exact fun _ _ _=>rfl
@[simp] theorem q1u:qb 29 0 [0,1,2]∧qb 29 1 [0,1,2]∧qb 29 2 []∧qb 29 3 [0,1,2]∧qb 29 4 []∧qb 29 5 [0,1,2]∧qb 29 6 []∧qb 29 7 [0,1,2]∧qb 29 8 [0,1,2,7]∧qb 29 9 [0,1,2,7]∧qb 29 10 [0,1,2]∧qb 29 11 []:=by and_intros<;>exact fun _ _ _=>rfl
@[simp] theorem q1t:qb 30 0 [0]∧qb 30 1 [0]:=by and_intros<;>exact fun _ _ _=>rfl
@[simp] theorem q1s:qb 31 0 [0]∧qb 31 1 [0]:=by and_intros<;>exact fun _ _ _=>rfl
@[simp] theorem q1r:qb 32 0 [0]∧qb 32 1 [0]∧qb 32 2 [0,3]∧qb 32 3 [0,3,9,10,11]∧qb 32 4 [0,3,9,10,11]∧qb 32 5 [0,3,5,9,10,11]∧qb 32 6 [0,3,5,9,10,11]∧qb 32 7 [0,3,9,10,11]∧qb 32 8 [3]∧qb 32 9 [3]:=by and_intros<;>exact fun _ _ _=>rfl
@[simp] theorem q1q:qb 33 0 [0,1]∧qb 33 1 [0,1]∧qb 33 2 [6,7]∧qb 33 3 [7]∧qb 33 4 [6]:=by and_intros<;>exact fun _ _ _=>rfl
@[simp] theorem q1p:qb 34 0 [0]∧qb 34 1 [0]∧qb 34 2 [4,5]∧qb 34 3 [5]∧qb 34 4 [4]∧qb 34 5 [4,6]∧qb 34 6 [6]:=by and_intros<;>exact fun _ _ _=>rfl
@[simp] theorem q1o:qb 35 0 [0]∧qb 35 1 [0,2]:=by and_intros<;>exact fun _ _ _=>rfl
@[simp] theorem q1n:qb 37 0 [0,1]∧qb 37 1 [0,1]∧qb 37 2 []∧qb 37 3 [1]∧qb 37 4 [11,12,13]∧qb 37 5 [11,12,13]∧qb 37 6 [6,11,12,13]∧qb 37 7 []∧qb 37 8 [11,12,13]∧qb 37 9 []:=by and_intros<;>exact fun _ _ _=>rfl
@[simp] theorem q1l:qb 39 0 [0,1]∧qb 39 1 [0,1]:=by and_intros<;>exact fun _ _ _=>rfl
@[simp] theorem q1k:qb 40 0 [0,1]∧qb 40 1 [0,1]:=by and_intros<;>exact fun _ _ _=>rfl
@[simp] theorem q1j:qb 41 0 [0,1]∧qb 41 1 [0,1]:=by and_intros<;>exact fun _ _ _=>rfl
@[simp] theorem q1i:qb 42 0 [0,1]∧qb 42 1 [0,1]:=by and_intros<;>exact fun _ _ _=>rfl
@[simp] theorem q1h:qb 43 0 [0]∧qb 43 1 [0,2]∧qb 43 2 [0,2,4]∧qb 43 3 [2]∧qb 43 4 [0,2,4]∧qb 43 5 [0,2,4,12,13]∧qb 43 6 [0,2,4,12,13]∧qb 43 7 [0,2,4,5,12,13]∧qb 43 8 [0,2,4,5,6,12,13]∧qb 43 9 [2]∧qb 43 10 [0,2,4,5,6,12,13]∧qb 43 11 [0,2,4,12,13]∧qb 43 12 [2,4]:=by and_intros<;>exact fun _ _ _=>rfl
@[simp] theorem q1g:qb 44 0 [0]∧qb 44 1 [0]∧qb 44 2 [0,4,5]∧qb 44 3 []∧qb 44 4 [4]:=by and_intros<;>exact fun _ _ _=>rfl
@[simp] theorem q1f:qb 45 0 [0]∧qb 45 1 [1]∧qb 45 2 [1,3]∧qb 45 3 [1,3,4]∧qb 45 4 [1,3,4]∧qb 45 5 [1,3,4]∧qb 45 6 [3]:=by and_intros<;>exact fun _ _ _=>rfl
@[simp] theorem q1e:qb 46 0 [0]∧qb 46 1 [0]∧qb 46 2 [0,3]∧qb 46 3 [0,3,4]∧qb 46 4 [0,3,4]∧qb 46 5 [0,3,4]∧qb 46 6 [0,3,4]∧qb 46 7 [3]:=by and_intros<;>exact fun _ _ _=>rfl
@[simp] theorem q1d:qb 47 0 [0,1]∧qb 47 1 [0,1]∧qb 47 2 []∧qb 47 3 [0,1]:=by and_intros<;>exact fun _ _ _=>rfl
@[simp] theorem q1c:qb 48 0 [0]∧qb 48 1 [0,2]:=by and_intros<;>exact fun _ _ _=>rfl
@[simp] theorem q1a:qb 49 0 [0,1]∧qb 49 1 [1,2]∧qb 49 2 [1,2,5]∧qb 49 3 [1,2,5]∧qb 49 4 [1,2,5,6]∧qb 49 5 [1,2,5,6]∧qb 49 6 [1,2,5,6]∧qb 49 7 [1,2,5,6]∧qb 49 8 [1,2,5,6]∧qb 49 9 [1,2,5,6]∧qb 49 10 [1,2,5,6]∧qb 49 11 [1,2,5,6]∧qb 49 12 [1,2,5,6]∧qb 49 13 [1,5,6]∧qb 49 14 [1,5]∧qb 49 15 [1,5]∧qb 49 16 [5]:=by and_intros<;>exact fun _ _ _=>rfl
@[simp] theorem q0Z:qb 50 0 [0]∧qb 50 1 [0]:=by and_intros<;>exact fun _ _ _=>rfl
@[simp] theorem q0Y:qb 51 0 [0,1]∧qb 51 1 [0,1,4]∧qb 51 2 [0,1,4,5]:=by and_intros<;>exact fun _ _ _=>rfl
@[simp] theorem q0X:qb 52 0 [0]∧qb 52 1 [0]:=by and_intros<;>exact fun _ _ _=>rfl
@[simp] theorem q0W:qb 53 0 [0,1,2,3,4]∧qb 53 1 [0,1,2,3,9]∧qb 53 2 [0,2,3,9,12,13]∧qb 53 3 [13]∧qb 53 4 [0,2,3,9,12]∧qb 53 5 []∧qb 53 6 [0,2,3,9,12]∧qb 53 7 [0,2,3,9,12,14]∧qb 53 8 [0,2,3,9,12,14,15]∧qb 53 9 [0,2,3,9,12,14,15,16]∧qb 53 10 [0,2,3,9,12,14,15,16,17]∧qb 53 11 [0,2,3,9,12,14,15,16,17,18]∧qb 53 12 [0,2,3,9,12,14,15,16,17,18]∧qb 53 13 [0,2,3,9,12,14,15,16,17,18]∧qb 53 14 [0,2,3,9,12,14,15,16,17,18,19]:=by and_intros<;>exact fun _ _ _=>rfl
end
@[simp] theorem q4W [MaxL] [TxtC] (n0:Nat) (e:qn) (H:qd):enter cx 53 n0 15 e H = qfU [17] (qcs [16] [0,2,3,9,12,14,15,16,17,18,19] 0 n0 e) e H:=rfl
@[simp] theorem q0V [MaxL] [TxtC]:qb 53 16 [0,2,3,9,12,14,15,16,17,18,19,20]∧qb 53 17 [0,2,3,9,12,14,15,16,17,18,19,20]∧qb 53 18 [0,2,3,9,12,14,15,16,17,18,19,20]:=by and_intros<;>exact fun _ _ _=>rfl
@[simp] theorem q4V [MaxL] [TxtC] (n0:Nat) (e:qn) (H:qd):enter cx 53 n0 19 e H = qcs [16,17] [0,2,3,9,14,15,16,17] 0 n0 e H:=rfl
@[simp] theorem q0U [MaxL] [TxtC]:qb 53 20 [0,2,3,9,14,15,16,17,21]∧qb 53 21 [0,2,3,9,14,15,16,17,21]∧qb 53 22 [0,2,3,9,14,15,16,17,21]∧qb 53 23 [0,2,3,9,14,15,16,17,21,22]:=by and_intros<;>exact fun _ _ _=>rfl
@[simp] theorem q4U [MaxL] [TxtC] (n0:Nat) (e:qn) (H:qd):enter cx 53 n0 24 e H = qcs [15] [0,2,3,9,14,15,16,17] 0 n0 e H:=rfl
section
variable [MaxL] [TxtC]
@[simp] theorem q0T:qb 53 25 [0,2,3,9,14,15,16,17,23]∧qb 53 26 [0,2,3,9,14,16,23,24]∧qb 53 27 [0,2,3,9,14,16,23,24]∧qb 53 28 [0,2,3,9,14,16,23,24,26]∧qb 53 29 [0,2,3,9,14,16,23,24,25,26]∧qb 53 30 [0,2,3,9,14,16,23,24,25,26]∧qb 53 31 [0,2,3,9,14,16,23,24,26]∧qb 53 32 [0,2,3,9,14,16,23,24,26,27]∧qb 53 33 [0,2,3,9,14,16,23,24,26,27]∧qb 53 34 [0,2,3,9,14,16,23,24,26,27]∧qb 53 35 [0,2,3,9,14,16,23,24,26,27,28]∧qb 53 36 [0,2,3,9,14,16,23,24,26,27,28]∧qb 53 37 [0,2,3,9,14,16,23,24,26,27,28]∧qb 53 38 [0,2,3,9,14,16,23,24,26,27,28]∧qb 53 39 [0,2,3,9,14,16,23,24,26,27,28]∧qb 53 40 [0,2,3,9,14,16,23,24,26,27,28]∧qb 53 41 [0,2,3,9,14,23,24,26]∧qb 53 42 [0,14]∧qb 53 43 []∧qb 53 44 [0,2,3,9,23,24,26]∧qb 53 45 [0,2,3,9,23,24]∧qb 53 46 [0,2,3,9,23,24]∧qb 53 47 [0,2,3,9,23,24]∧qb 53 48 [0,9,23,24]∧qb 53 49 [23]:=by and_intros<;>exact fun _ _ _=>rfl
@[simp] theorem q0S:qb 54 0 [0]∧qb 54 1 [0]:=by and_intros<;>exact fun _ _ _=>rfl
@[simp] theorem q0R:qb 55 0 [0,1]∧qb 55 1 [1,2]∧qb 55 2 [1,2,5]∧qb 55 3 [1,2,5]∧qb 55 4 [1,2,5]∧qb 55 5 [1,2,5]∧qb 55 6 [2,5]∧qb 55 7 [2,5]:=by and_intros<;>exact fun _ _ _=>rfl
@[simp] theorem q0P:qb 56 0 [0,1]∧qb 56 1 [0,1]:=by and_intros<;>exact fun _ _ _=>rfl
@[simp] theorem q0O:qb 58 0 [0,1]∧qb 58 1 [0,1]∧qb 58 2 [1,10,11,12]∧qb 58 3 [1,10,11,12]∧qb 58 4 [1,6,10,11,12]∧qb 58 5 [6]∧qb 58 6 [1,10,11,12]∧qb 58 7 []:=by and_intros<;>exact fun _ _ _=>rfl
@[simp] theorem q0N:qb 59 0 [0]∧qb 59 1 [0]∧qb 59 2 []∧qb 59 3 [0]:=by and_intros<;>exact fun _ _ _=>rfl
@[simp] theorem q0M:qb 61 0 [0]∧qb 61 1 [0]:=by and_intros<;>exact fun _ _ _=>rfl
@[simp] theorem q0L:qb 62 0 [0]∧qb 62 1 [0]∧qb 62 2 [0,4,5]∧qb 62 3 [5]∧qb 62 4 [0,4]∧qb 62 5 [0,4,6]:=by and_intros<;>exact fun _ _ _=>rfl
@[simp] theorem q0K:qb 63 0 [0]∧qb 63 1 [0]∧qb 63 2 [0,4]∧qb 63 3 [0,4,5]∧qb 63 4 [0,4,5]∧qb 63 5 [5]∧qb 63 6 [0,4,5]∧qb 63 7 [0,4,5,6,7]∧qb 63 8 [5,7]∧qb 63 9 [0,4,5,6]∧qb 63 10 [0,4,5,40,41,42]∧qb 63 11 [0,4,5,40,41,42]∧qb 63 12 [0,4,5,9,40,41,42]∧qb 63 13 [0,4,5,9,40,41,42]∧qb 63 14 [5]∧qb 63 15 [0,4,5,9,40,41,42]∧qb 63 16 [0,4,5,10,40,41,42]∧qb 63 17 [5,10]∧qb 63 18 [0,4,5,40,41,42]∧qb 63 19 [5]:=by and_intros<;>exact fun _ _ _=>rfl
@[simp] theorem q0J:qb 64 0 [0]∧qb 64 1 [0]∧qb 64 2 []∧qb 64 3 [0]∧qb 64 4 [0,13,14]∧qb 64 5 [0,13,14]∧qb 64 6 [0,3,13,14]∧qb 64 7 []∧qb 64 8 [0,13,14]∧qb 64 9 []:=by and_intros<;>exact fun _ _ _=>rfl
@[simp] theorem q0I:qb 67 0 [0,1]∧qb 67 1 [0,1]:=by and_intros<;>exact fun _ _ _=>rfl
@[simp] theorem q0H:qb 68 0 [0,1]∧qb 68 1 [0,1]∧qb 68 2 [0,1]∧qb 68 3 [0]:=by and_intros<;>exact fun _ _ _=>rfl
@[simp] theorem q0G:qb 69 0 [0,1]∧qb 69 1 [0,1]∧qb 69 2 [0,1]∧qb 69 3 [0]:=by and_intros<;>exact fun _ _ _=>rfl
@[simp] theorem q0E:qb 70 0 [0,1,2,3]∧qb 70 1 [0,1,2,3]∧qb 70 2 []∧qb 70 3 [0,1,2,3]∧qb 70 4 [0,3]∧qb 70 5 [0,1,2,3]∧qb 70 6 [0,1,2]∧qb 70 7 [0,1,2,3]∧qb 70 8 [0,1,2,3]∧qb 70 9 [0,1,2,3,9]∧qb 70 10 [0,1,2,3,9]∧qb 70 11 [0,1,2,3,9,10]∧qb 70 12 [0,1,2,3,9,10]∧qb 70 13 [0,1,2,3,9,10,11]∧qb 70 14 [0,1,2,3,9,10,11]∧qb 70 15 [0,1,2,3,9,10,11]∧qb 70 16 [0,1,2,3,9,10]∧qb 70 17 [0,9,10]∧qb 70 18 [9,10]:=by and_intros<;>exact fun _ _ _=>rfl
@[simp] theorem q0D:qb 71 0 [0,1]∧qb 71 1 [0,1]:=by and_intros<;>exact fun _ _ _=>rfl
@[simp] theorem q0C:qb 72 0 [0,1,2]∧qb 72 1 [0,1,2]∧qb 72 2 [0,1,2,8,9]∧qb 72 3 [0,1,2,8,9]∧qb 72 4 [8]:=by and_intros<;>exact fun _ _ _=>rfl
@[simp] theorem q0B:qb 73 0 [0,1]∧qb 73 1 [0,1]∧qb 73 2 []∧qb 73 3 [0,1]∧qb 73 4 [0,1,5]:=by and_intros<;>exact fun _ _ _=>rfl
end
@[simp] theorem q4T [MaxL] [TxtC] (n0:Nat) (e:qn) (H:qd):enter cx 73 n0 5 e H = Xe [] [5] [0,1,6] n0 e H:=rfl
@[simp] theorem q0A [MaxL] [TxtC]:qb 73 6 [0,1,5,6]∧qb 73 7 [0,1,5,6]∧qb 73 8 [0,5]:=by and_intros<;>exact fun _ _ _=>rfl
@[simp] theorem q09 [MaxL] [TxtC]:qb 74 0 [0]∧qb 74 1 [0]∧qb 74 2 []∧qb 74 3 [0]∧qb 74 4 [0,4]:=by and_intros<;>exact fun _ _ _=>rfl
@[simp] theorem q4S [MaxL] [TxtC] (n0:Nat) (e:qn) (H:qd):enter cx 74 n0 5 e H = Xe [] [4] [0,5] n0 e H:=rfl
@[simp] theorem q08 [MaxL] [TxtC]:qb 74 6 [0,4,5]∧qb 74 7 [0,4,5]∧qb 74 8 [0,4,5,7]∧qb 74 9 [7]∧qb 74 10 [0,4,5]∧qb 74 11 [0,4,5,8]∧qb 74 12 [0,4,5,8]∧qb 74 13 [0,4,5,8]∧qb 74 14 [0,4,5,8]∧qb 74 15 [0,4,5,8]∧qb 74 16 [0,4,5,8,9]∧qb 74 17 [0,4,5,8,9]∧qb 74 18 [0,4,5,8,9]∧qb 74 19 [0,4,5,8]∧qb 74 20 [4]∧qb 74 21 []∧qb 74 22 [4]:=by and_intros<;>exact fun _ _ _=>rfl
@[simp] theorem q07 [MaxL] [TxtC]:qb 75 0 [0,1]∧qb 75 1 [0,1]∧qb 75 2 [0,1,5]:=by and_intros<;>exact fun _ _ _=>rfl
@[simp] theorem q4R [MaxL] [TxtC] (n0:Nat) (e:qn) (H:qd):enter cx 75 n0 3 e H = Xe [] [5] [0,6] n0 e H:=rfl
section
variable [MaxL] [TxtC]
@[simp] theorem q06:qb 75 4 [0,5,6]∧qb 75 5 [0,5,6]∧qb 75 6 [5]:=by and_intros<;>exact fun _ _ _=>rfl
@[simp] theorem q05:qb 76 0 [0]∧qb 76 1 [0]∧qb 76 2 [0,3]∧qb 76 3 [0,3]∧qb 76 4 [0,3]∧qb 76 5 [0,3]∧qb 76 6 [0,3,4]∧qb 76 7 [0,3,4]∧qb 76 8 [0,3,4]∧qb 76 9 [0,3,4,5]∧qb 76 10 [0,3,4,5]∧qb 76 11 [0,3]∧qb 76 12 [3]:=by and_intros<;>exact fun _ _ _=>rfl
@[simp] theorem q03:qb 77 0 [0,1]∧qb 77 1 [0,3]∧qb 77 2 [0,3,5]∧qb 77 3 [0,3,5,6]∧qb 77 4 [0,3,5,6]∧qb 77 5 [0,3,5,6]∧qb 77 6 [6]∧qb 77 7 [0,3,5]∧qb 77 8 [0,3,5,7]∧qb 77 9 [0,3,5,7,8]∧qb 77 10 [0,3,5,8,9]∧qb 77 11 [0,3,5,8,9,10]∧qb 77 12 [0,3,5,8,9]∧qb 77 13 [0,3,5,8,9]∧qb 77 14 [0,3,8]∧qb 77 15 [0,8,11]∧qb 77 16 [0,8,11,12]∧qb 77 17 [0,8,11]∧qb 77 18 [0]:=by and_intros<;>exact fun _ _ _=>rfl
@[simp] theorem q02:qb 78 0 [0,1,2]∧qb 78 1 [0,2,4]∧qb 78 2 [2,4]∧qb 78 3 [2]:=by and_intros<;>exact fun _ _ _=>rfl
@[simp] theorem q01:qb 79 0 [0,1]∧qb 79 1 [0,1]∧qb 79 2 [0,1,5]∧qb 79 3 [0,5]∧qb 79 4 [0,5]∧qb 79 5 [5]:=by and_intros<;>exact fun _ _ _=>rfl
@[simp] theorem q00:qb 80 0 [0]∧qb 80 1 [1]∧qb 80 2 [1,3]∧qb 80 3 [1,3]:=by and_intros<;>exact fun _ _ _=>rfl
end
@[simp] theorem q4Q [MaxL] [TxtC] (n0:Nat) (e:qn) (H:qd):enter cx 80 n0 4 e H = Xe [] [1,3] [4] n0 e H:=rfl
section
variable [MaxL] [TxtC]
@[simp] theorem q0z:qb 80 5 [1,3,4]∧qb 80 6 [1,3,4]∧qb 80 7 [3]:=by and_intros<;>exact fun _ _ _=>rfl
@[simp] theorem q0y:qb 81 0 [0]∧qb 81 1 [0]∧qb 81 2 [0,3]∧qb 81 3 [0,3,4]∧qb 81 4 [0,3,4]∧qb 81 5 [0,3,4]∧qb 81 6 [3]:=by and_intros<;>exact fun _ _ _=>rfl
@[simp] theorem q0x:qb 82 0 [0,1,2,3,4]∧qb 82 1 [0,1,2,3,4]∧qb 82 2 [0,1,2,3,4,12,13]∧qb 82 3 [0,1,2,3,4,12,13,14]∧qb 82 4 [0,1,2,3,4,12,13,14]∧qb 82 5 [0,1,2,3,4,13,14]∧qb 82 6 [0,1,2,3,4,12,13,14]∧qb 82 7 [0,1,2,3,4,12,13]∧qb 82 8 [0,1,2,3,4,13]∧qb 82 9 [0,1,2,3,4,13,15]∧qb 82 10 [0,1,2,3,4,13,15]∧qb 82 11 [0,1,2,3,4,13,15]∧qb 82 12 [0,1,2,4,13,15]∧qb 82 13 [0,1,2,4,13,15]∧qb 82 14 [0,1,2,4,12,15]∧qb 82 15 [0,1,2,4,12]∧qb 82 16 [1,2,12]:=by and_intros<;>exact fun _ _ _=>rfl
@[simp] theorem q0w:qb 83 0 [0,1,2]∧qb 83 1 [0,1,2,6]∧qb 83 2 [0,1,2,6]∧qb 83 3 [0,1,2,6]:=by and_intros<;>exact fun _ _ _=>rfl
@[simp] theorem q0v:qb 84 0 [0,1]∧qb 84 1 [0,1]∧qb 84 2 [0,1,5]∧qb 84 3 [0,1,5,6]:=by and_intros<;>exact fun _ _ _=>rfl
end
@[simp] theorem q4P [MaxL] [TxtC] (n0:Nat) (e:qn) (H:qd):enter cx 84 n0 4 e H = Xe [] [5] [0,1,6] n0 e H:=rfl
@[simp] theorem q0u [MaxL] [TxtC]:qb 84 5 [0,1,5,6]∧qb 84 6 [0,1,5,6]∧qb 84 7 [5]:=by and_intros<;>exact fun _ _ _=>rfl
@[simp] theorem q2P [MaxL] [TxtC]:qb 85 0 [0]∧qb 85 1 [0]∧qb 85 2 [0,3]∧qb 85 3 [0,3,4]:=by and_intros<;>exact fun _ _ _=>rfl
@[simp] theorem q4O [MaxL] [TxtC] (n0:Nat) (e:qn) (H:qd):enter cx 85 n0 4 e H = Xe [] [3] [0,4] n0 e H:=rfl
section
variable [MaxL] [TxtC]
@[simp] theorem q2O:qb 85 5 [0,3,4]∧qb 85 6 [3]:=by and_intros<;>exact fun _ _ _=>rfl
@[simp] theorem q2N:qb 86 0 [0,1]∧qb 86 1 [0,1]∧qb 86 2 [0]∧qb 86 3 [0]∧qb 86 4 [0]∧qb 86 5 [0,5]∧qb 86 6 [0,5,6]∧qb 86 7 [5,6]∧qb 86 8 [0,1]∧qb 86 9 [8]:=by and_intros<;>exact fun _ _ _=>rfl
@[simp] theorem q2M:qb 95 0 [0]∧qb 95 1 [0,2]∧qb 95 2 [2]∧qb 95 3 [0,2]∧qb 95 4 [2]∧qb 95 5 [0,2]∧qb 95 6 [0,2,4]∧qb 95 7 [0,2,4,5,6]∧qb 95 8 [2]∧qb 95 9 [0,2,4,5,6]∧qb 95 10 [2]∧qb 95 11 [0,2,4,5,6]∧qb 95 12 [2]∧qb 95 13 [0,2,4,5,6]∧qb 95 14 [2]∧qb 95 15 [2,4,5]∧qb 95 16 [2,4,5,7]∧qb 95 17 [2,7]∧qb 95 18 [2,4,5]∧qb 95 19 [2,4,8]∧qb 95 20 [2,8]∧qb 95 21 [2,4]:=by and_intros<;>exact fun _ _ _=>rfl
@[simp] theorem q2L:qb 96 0 [0]∧qb 96 1 [1]∧qb 96 2 [1,4]∧qb 96 3 []∧qb 96 4 [4]:=by and_intros<;>exact fun _ _ _=>rfl
@[simp] theorem q2K:qb 97 0 [0,1]∧qb 97 1 [0,1]:=by and_intros<;>exact fun _ _ _=>rfl
@[simp] theorem q2J:qb 98 0 [0,1]∧qb 98 1 [0,1]∧qb 98 2 []∧qb 98 3 [0,1]∧qb 98 4 [0,6,7]∧qb 98 5 [6,7]:=by and_intros<;>exact fun _ _ _=>rfl
@[simp] theorem q2I:qb 99 0 [0,1]∧qb 99 1 [0,1]∧qb 99 2 [0,1,5]∧qb 99 3 []∧qb 99 4 [0,1]∧qb 99 5 []:=by and_intros<;>exact fun _ _ _=>rfl
@[simp] theorem q2H:qb 101 0 [0,1]∧qb 101 1 [0,1]:=by and_intros<;>exact fun _ _ _=>rfl
@[simp] theorem q2G:qb 103 0 [0,1]∧qb 103 1 [0,1]∧qb 103 2 [0]∧qb 103 3 [0,1]∧qb 103 4 [0,1]∧qb 103 5 [0,1]∧qb 103 6 [0,1,5]∧qb 103 7 [0,1,5,6]∧qb 103 8 [5]∧qb 103 9 [0,1,5,6]∧qb 103 10 [0,1,5,6]:=by and_intros<;>exact fun _ _ _=>rfl
@[simp] theorem q2E:qb 104 0 [0,1]∧qb 104 1 [0,1]:=by and_intros<;>exact fun _ _ _=>rfl
@[simp] theorem q2D:qb 105 0 [0,1]∧qb 105 1 [0,1]:=by and_intros<;>exact fun _ _ _=>rfl
@[simp] theorem q2C:qb 106 0 [0,1,2]∧qb 106 1 [0,1,2]∧qb 106 2 []∧qb 106 3 [0,1,2]∧qb 106 4 [0,1,2,8]∧qb 106 5 []∧qb 106 6 [0,1,2,8,9]∧qb 106 7 [0,1,2,8,9]∧qb 106 8 [0,2,8,9]∧qb 106 9 [0,1,2,8,9]∧qb 106 10 [0,2,8,9]∧qb 106 11 [0,1,2,8,9]∧qb 106 12 [0,2,8,9]∧qb 106 13 [0,2,8,9]∧qb 106 14 [0,1,2,8,9]∧qb 106 15 [0,2,8,9]∧qb 106 16 [0,2,8,9]∧qb 106 17 [0,1,2,8,9]∧qb 106 18 [0,2,8,9]∧qb 106 19 [0,2,8,9]∧qb 106 20 [0,1,2,8,9]∧qb 106 21 [0,1,2,8,9]∧qb 106 22 [0,1,8,9]∧qb 106 23 [0,1,2,8,9]∧qb 106 24 []∧qb 106 25 [0,1,2,8,9]∧qb 106 26 [0,1,2,8,9]∧qb 106 27 [0,1,2,8,9]∧qb 106 28 [0,1,2,8,9,85]∧qb 106 29 [0,1,2,8,9]∧qb 106 30 [0,1,2,8,9,85]∧qb 106 31 [0,1,2,8,9]∧qb 106 32 [0,1,2,8,9,10]∧qb 106 33 [0,1,8,9,10,11]∧qb 106 34 [0,1,8,9,10,11,12]∧qb 106 35 [0,1,8,9,10,11,12,13]∧qb 106 36 [1,8,9,10,11,12,13,99,100,101]∧qb 106 37 [1,8,9,10,11,12,13,99,100,101]∧qb 106 38 [1,8,9,10,11,12,13,15,99,100,101]∧qb 106 39 []∧qb 106 40 [1,8,9,10,11,12,13,15,99,100,101]∧qb 106 41 [1,8,9,10,11,13,99,100,101]∧qb 106 42 [1,8,9,10,11,12,13,15,99,100,101]∧qb 106 43 [1,8,9,10,11,12,13,15,99,100,101]∧qb 106 44 [1,8,9,10,11,12,13,15,99,100,101]∧qb 106 45 [1,8,9,10,11,12,13,15,99,100,101]∧qb 106 46 [1,8,9,10,11,12,13,16,99,100,101]∧qb 106 47 []∧qb 106 48 [1,8,9,10,11,12,13,16,99,100,101]∧qb 106 49 [11]∧qb 106 50 [1,8,9,10,11,12,13,16,99,100,101]∧qb 106 51 [1,8,9,10,11,12,13,16,99,100,101]∧qb 106 52 [1,8,9,10,11,12,13,17,99,100,101]∧qb 106 53 [11]∧qb 106 54 [1,8,9,10,11,12,17,99,100,101]∧qb 106 55 [1,8,9,10,11,12,13,99,100,101]∧qb 106 56 [9,12,13]∧qb 106 57 []∧qb 106 58 [13]:=by and_intros<;>exact fun _ _ _=>rfl
@[simp] theorem q2B:qb 107 0 [0,1,2,3,4]∧qb 107 1 [0,1,2,3,4]∧qb 107 2 [0,1,2,3,4,11]∧qb 107 3 [0,1]∧qb 107 4 [0,1,2,3,4,11]∧qb 107 5 [0,1]∧qb 107 6 [0,1,2,3,4,11]∧qb 107 7 [0,1,2]∧qb 107 8 [0,1,3,4,11]∧qb 107 9 [0,1,3]∧qb 107 10 [4]:=by and_intros<;>exact fun _ _ _=>rfl
@[simp] theorem q2A:qb 108 0 [0,1]∧qb 108 1 [0,1]∧qb 108 2 []∧qb 108 3 [0,1]∧qb 108 4 [1,5]:=by and_intros<;>exact fun _ _ _=>rfl
end
@[simp] theorem q5c [MaxL] [TxtC] (n0:Nat) (e:qn) (H:qd):enter cx 108 n0 5 e H = Xe [] [5] [] n0 e H:=rfl
section
variable [MaxL] [TxtC]
@[simp] theorem q29:qb 108 6 [5]∧qb 108 7 [5]:=by and_intros<;>exact fun _ _ _=>rfl
@[simp] theorem q28:qb 109 0 [0]∧qb 109 1 [1]∧qb 109 2 []∧qb 109 3 [1]∧qb 109 4 []∧qb 109 5 [1]:=by and_intros<;>exact fun _ _ _=>rfl
@[simp] theorem q27:qb 110 0 [0]∧qb 110 1 [1]:=by and_intros<;>exact fun _ _ _=>rfl
@[simp] theorem q26:qb 111 0 [0]∧qb 111 1 [0,2]:=by and_intros<;>exact fun _ _ _=>rfl
@[simp] theorem q25:qb 112 0 [0]∧qb 112 1 [1]:=by and_intros<;>exact fun _ _ _=>rfl
@[simp] theorem q23:qb 113 0 [0,1,2,3,4]∧qb 113 1 [0,1,2,3,4]∧qb 113 2 [0,1,2,3,4,11,12]∧qb 113 3 [0,1,2,3,4,11,12,13]∧qb 113 4 [0,1,2,3,4,11,12,13]∧qb 113 5 [0,1,2,3,4,11,12,13]∧qb 113 6 [0,1,2,3,4,11,13]∧qb 113 7 [0,1,2,3,4,11,13]∧qb 113 8 [0,2,3,4,11,12]∧qb 113 9 [0,3,11,12,14]∧qb 113 10 [0,3,11,14]∧qb 113 11 [0,3,11,12,14]∧qb 113 12 [0,3,11,14]∧qb 113 13 [11]:=by and_intros<;>exact fun _ _ _=>rfl
@[simp] theorem q22:qb 114 0 [0,1]∧qb 114 1 [0,1]∧qb 114 2 [0,1,5]∧qb 114 3 [0,1,5]∧qb 114 4 [0,1,5]∧qb 114 5 [0,5]∧qb 114 6 [0,1]∧qb 114 7 [0,1,6]∧qb 114 8 [0,1,6,7]∧qb 114 9 [0,1,7,8]∧qb 114 10 [0,1,7,8]∧qb 114 11 [0,1,7,8]∧qb 114 12 [7]:=by and_intros<;>exact fun _ _ _=>rfl
@[simp] theorem q21:qb 115 0 [0,1,2]∧qb 115 1 [0,1,2]∧qb 115 2 []∧qb 115 3 [0,1,2]∧qb 115 4 [0,1,2,8]∧qb 115 5 [0,1,8,9]∧qb 115 6 [0,1,8,9]∧qb 115 7 [0,1,8,9]∧qb 115 8 [8]:=by and_intros<;>exact fun _ _ _=>rfl
end
@[simp] theorem q5b [MaxL] [TxtC] (n0:Nat) (e:qn) (H:qd):enter cx 116 n0 0 e H = qbq [0,1] 0 n0 e H:=rfl
@[simp] theorem q5a [MaxL] [TxtC] (n0:Nat) (e:qn) (H:qd):enter cx 116 n0 1 e H = qcs [2] [1,2] 0 n0 e H:=rfl
section
variable [MaxL] [TxtC]
@[simp] theorem q20:qb 116 2 [1,5,6]∧qb 116 3 [1,7]∧qb 116 4 [1,7,8]∧qb 116 5 [1,7,8]∧qb 116 6 [1,7,8,9]∧qb 116 7 [1,7,8,9]∧qb 116 8 [1,7,8,9]∧qb 116 9 [1,7,8]∧qb 116 10 [1,7,8]∧qb 116 11 [7,10]∧qb 116 12 [7,10]∧qb 116 13 [7,10]∧qb 116 14 [7]∧qb 116 15 [7]∧qb 116 16 [7]:=by and_intros<;>exact fun _ _ _=>rfl
@[simp] theorem q2z:qb 117 0 [0]∧qb 117 1 [0]∧qb 117 2 [0,3]∧qb 117 3 [0,3,4,5]∧qb 117 4 [4,5]∧qb 117 5 [0,3,4,5]∧qb 117 6 [0,3,4,5,6]∧qb 117 7 [0,3,4,5,6]∧qb 117 8 [0,3,4,5,6]∧qb 117 9 [0,3,4,5,6]∧qb 117 10 [0,3,4,5,6]∧qb 117 11 [0,3,4,5,6]∧qb 117 12 [0,3,4,5,6]∧qb 117 13 [0,3,4,5,6]∧qb 117 14 [0,3,4,5,6]∧qb 117 15 [0,3,4,5,6]∧qb 117 16 [0,3,4,5,6]∧qb 117 17 [0,3,4,5,6]∧qb 117 18 [0,3,4,5,6]∧qb 117 19 [0,3,4,5,6]∧qb 117 20 [0,3,4,5,6]∧qb 117 21 [0,3,4,5,6]∧qb 117 22 [0,3,4,5,6]∧qb 117 23 [0,3,4,5,6]∧qb 117 24 [0,3,4,5,6]∧qb 117 25 [0,3,4,5,6]∧qb 117 26 [0,3,4,5,6]∧qb 117 27 [0,3,4,5,6]∧qb 117 28 [3,4,5]∧qb 117 29 [3,4,5]∧qb 117 30 [3,4,5]∧qb 117 31 [3,4,5]∧qb 117 32 [3,4,5]∧qb 117 33 [3,4,5]∧qb 117 34 [3,4,5]∧qb 117 35 [3,4,5]∧qb 117 36 [3,4,5]∧qb 117 37 [3,4,5]∧qb 117 38 [3,4,5]∧qb 117 39 [3,4,5]∧qb 117 40 [4,5]∧qb 117 41 [4,5]∧qb 117 42 [4,5]:=by and_intros<;>exact fun _ _ _=>rfl
@[simp] theorem q2y:qb 118 0 [0]∧qb 118 1 [0]∧qb 118 2 []∧qb 118 3 [0]∧qb 118 4 []∧qb 118 5 [0]:=by and_intros<;>exact fun _ _ _=>rfl
@[simp] theorem q2x:qb 119 0 [0]∧qb 119 1 [1]:=by and_intros<;>exact fun _ _ _=>rfl
@[simp] theorem q2w:qb 123 0 [0,1,2,3,4]∧qb 123 1 [0,1,2,3,4,10,11]∧qb 123 2 [0,1,2,3,4,10,11]∧qb 123 3 [0,1,2,3,4,10,11]∧qb 123 4 [0,1,2,3,4,10,11,12]∧qb 123 5 [0,1,2,3,4,10,11,12,13]∧qb 123 6 [0,1,2,3,4,10,11,12,13]∧qb 123 7 [0,1,2,3,4,10,11,12,13]∧qb 123 8 [0,1,2,3,4,10,11,12,13]∧qb 123 9 [0,1,2,3,4,10,11,12,13,14]∧qb 123 10 [0,1,2,3,4,10,11,12,13,14,15]∧qb 123 11 [0,1,3,4,10,11,12,13,14,15,16]∧qb 123 12 [0,1,3,4,10,11,12,13,14,15,16]∧qb 123 13 [0,1,3,4,10,11,12,13,14,15,16]∧qb 123 14 [0,1,3,4,10,11,12,13,14,15,16]∧qb 123 15 [0,1,3,4,10,11,12,13]∧qb 123 16 [0,1,3,4,10,11,12,13]∧qb 123 17 [0,1,2,3,4,10,11,12,13]∧qb 123 18 [0,1,3,4,10,11,12,13,17]∧qb 123 19 [0,1,3,4,10,11,12,13,17]∧qb 123 20 [0,1,3,4,10,11,12,13,17]∧qb 123 21 [0,1,3,4,10,11,12,13,17,18]∧qb 123 22 [0,3,4,10,11,12,13,17,18]∧qb 123 23 [0,1,3,4,10,11,12,13]∧qb 123 24 [0,1,3,4,10,11,12,13]∧qb 123 25 [0,3,4,10,11,12,13]∧qb 123 26 [0,4,10,11,12,13]∧qb 123 27 [0,4,10,11,12,13]∧qb 123 28 [0,4,10,11,12,13]∧qb 123 29 [0,11,12,13]∧qb 123 30 [10,12,13]:=by and_intros<;>exact fun _ _ _=>rfl
@[simp] theorem q2v:qb 139 0 [0,1]∧qb 139 1 [0,1]:=by and_intros<;>exact fun _ _ _=>rfl
@[simp] theorem q2t:qb 140 0 [0]∧qb 140 1 [1,2]∧qb 140 2 [1,2,3]∧qb 140 3 [1,2,3,4]∧qb 140 4 [1,2,3,4]∧qb 140 5 [1,2,3,4,5]∧qb 140 6 [1,2,3,4,5,22,23,24]∧qb 140 7 [1,2,3,4,5,22,23,24]∧qb 140 8 [1,2,3,4,5,7,22,23,24]∧qb 140 9 [1,2,3,4,5,22,23,24]∧qb 140 10 [1,2,3,4,5]∧qb 140 11 [1,2,3,4,5,38,39,40]∧qb 140 12 [1,2,3,4,5,38,39,40]∧qb 140 13 [1,2,3,4,5,9,38,39,40]∧qb 140 14 [1,2,3,4,5,38,39,40]∧qb 140 15 [1,2,3,4,5,38,39,40]∧qb 140 16 [1,2,3,4,5]∧qb 140 17 [1,2,3,5]∧qb 140 18 [2,3]:=by and_intros<;>exact fun _ _ _=>rfl
@[simp] theorem q2s:qb 141 0 [0,1,2,3]∧qb 141 1 [1,2,3,4]∧qb 141 2 []∧qb 141 3 [1,2,3,4]∧qb 141 4 []∧qb 141 5 [1,2,3,4]∧qb 141 6 []∧qb 141 7 []:=by and_intros<;>exact fun _ _ _=>rfl
@[simp] theorem q2r:qb 142 0 [0]∧qb 142 1 [0]:=by and_intros<;>exact fun _ _ _=>rfl
@[simp] theorem q2q:qb 143 0 [0,1]∧qb 143 1 [2,3,4]∧qb 143 2 [4,5]:=by and_intros<;>exact fun _ _ _=>rfl
@[simp] theorem q2p:qb 149 0 [0]∧qb 149 1 [0]:=by and_intros<;>exact fun _ _ _=>rfl
@[simp] theorem q2o:qb 151 0 [0,1]∧qb 151 1 [0,1]:=by and_intros<;>exact fun _ _ _=>rfl
@[simp] theorem q2n:qb 152 0 [0,1]∧qb 152 1 [0,1]:=by and_intros<;>exact fun _ _ _=>rfl
@[simp] theorem q2m:qb 155 0 [0]∧qb 155 1 [0]∧qb 155 2 [0,3]∧qb 155 3 [0,3]∧qb 155 4 [0,3]∧qb 155 5 [0,3,4]∧qb 155 6 []∧qb 155 7 [0]:=by and_intros<;>exact fun _ _ _=>rfl
@[simp] theorem q2l:qb 158 0 [0]∧qb 158 1 [1]:=by and_intros<;>exact fun _ _ _=>rfl
@[simp] theorem q2k:qb 159 0 [0,1]∧qb 159 1 [0,1]:=by and_intros<;>exact fun _ _ _=>rfl
@[simp] theorem q2i:qb 160 0 [0,1]∧qb 160 1 [1,2,4]∧qb 160 2 [1,4,5,6,7,8]∧qb 160 3 [1,4,5,6,7,8,9]∧qb 160 4 [1,4,5,6,7,8,9]∧qb 160 5 [1,4,5,6,7,8,9]∧qb 160 6 [1,4,5,6,7,8,9]∧qb 160 7 [1,4,5,6,7,8,9]∧qb 160 8 [1,4,5,6,7,8,9]∧qb 160 9 [1,4,5,6,7,8,9]∧qb 160 10 [1,4,5,6,7,8,9]∧qb 160 11 [1,4,5,6,7,8,9]∧qb 160 12 [1,4,5,6,7,8,9]∧qb 160 13 [1,4,5,6,7,8,9]∧qb 160 14 [1,4,5,6,7,8,9]∧qb 160 15 [1,4,5,6,7,8,9]∧qb 160 16 [1,4,5,6,7,8,9]∧qb 160 17 [1,4,5,6,7,8,9]∧qb 160 18 [1,4,5,6,7,8,9]∧qb 160 19 [4,5,6,7,8]:=by and_intros<;>exact fun _ _ _=>rfl
@[simp] theorem q2h:qb 161 0 [0,1]∧qb 161 1 [0,1]∧qb 161 2 [0,1,5]∧qb 161 3 [0,1,5,6]∧qb 161 4 [0,1,5,6]∧qb 161 5 [0,1,5,6]∧qb 161 6 [0,1,5,6]∧qb 161 7 [0,1,5,6]∧qb 161 8 [5]:=by and_intros<;>exact fun _ _ _=>rfl
@[simp] theorem q2g:qb 162 0 [0,1]∧qb 162 1 [0,1]:=by and_intros<;>exact fun _ _ _=>rfl
@[simp] theorem q2f:qb 175 0 [0,1]∧qb 175 1 [0,1]:=by and_intros<;>exact fun _ _ _=>rfl
@[simp] theorem q2e:qb 176 0 [0,1]∧qb 176 1 [0,1]∧qb 176 2 [4]:=by and_intros<;>exact fun _ _ _=>rfl
@[simp] theorem q2d:qb 177 0 [0,1,2]∧qb 177 1 [0,1,2]∧qb 177 2 []∧qb 177 3 [0,1,2]∧qb 177 4 [0,1,2,8]∧qb 177 5 [0,1,8,9]∧qb 177 6 [0,1,8,9]∧qb 177 7 [0,1,8,9]∧qb 177 8 [8]:=by and_intros<;>exact fun _ _ _=>rfl
@[simp] theorem q2c:qb 178 0 [0]∧qb 178 1 [0]:=by and_intros<;>exact fun _ _ _=>rfl
@[simp] theorem q2b:qb 179 0 [0]∧qb 179 1 [0]:=by and_intros<;>exact fun _ _ _=>rfl
@[simp] theorem q2a:qb 181 0 [0,1,2]∧qb 181 1 [0,1,2]∧qb 181 2 [2,3,4]∧qb 181 3 [2,3]:=by and_intros<;>exact fun _ _ _=>rfl
@[simp] theorem q1Z:qb 182 0 [0,1]∧qb 182 1 []:=by and_intros<;>exact fun _ _ _=>rfl
@[simp] theorem q1X:qb 183 0 [0,1]∧qb 183 1 [0,1,4]∧qb 183 2 [4,6,7]∧qb 183 3 [4,7]∧qb 183 4 [4,6]∧qb 183 5 [4,8]:=by and_intros<;>exact fun _ _ _=>rfl
@[simp] theorem q1W:qb 184 0 [0]∧qb 184 1 [0]:=by and_intros<;>exact fun _ _ _=>rfl
@[simp] theorem q1V:qb 192 0 [0,1]∧qb 192 1 [0,1]:=by and_intros<;>exact fun _ _ _=>rfl
@[simp] theorem q1U:qb 196 0 [0]∧qb 196 1 [0]:=by and_intros<;>exact fun _ _ _=>rfl
@[simp] theorem q1T:qb 198 0 [0,1,2,3,4]∧qb 198 1 [0,1,2,3,4]∧qb 198 2 [0,1,2,3,4,12,13]∧qb 198 3 [0,1,2,4,12,13,14]∧qb 198 4 [13]∧qb 198 5 [0,1,2,4,12,14]∧qb 198 6 []∧qb 198 7 [0,1,4,12,14]∧qb 198 8 []∧qb 198 9 [0,1,12]:=by and_intros<;>exact fun _ _ _=>rfl
@[simp] theorem q1S:qb 199 0 [0]∧qb 199 1 [0]∧qb 199 2 [0,3]∧qb 199 3 [0,3,4]:=by and_intros<;>exact fun _ _ _=>rfl
end
@[simp] theorem q4Y [MaxL] [TxtC] (n0:Nat) (e:qn) (H:qd):enter cx 199 n0 4 e H = Xe [] [3] [0,4] n0 e H:=rfl
@[simp] theorem q1R [MaxL] [TxtC]:qb 199 5 [0,3,4]∧qb 199 6 [0,3,4,5]∧qb 199 7 [3]:=by and_intros<;>exact fun _ _ _=>rfl
@[simp] theorem q1Q [MaxL] [TxtC]:qb 202 0 [0,1]∧qb 202 1 [0,1,4]∧qb 202 2 [0,1,4,6]∧qb 202 3 [4]∧qb 202 4 [0,1,4,6]∧qb 202 5 [4]∧qb 202 6 [0,1,4,6]∧qb 202 7 [0,1,4,6]∧qb 202 8 [0,1,4,6,7]∧qb 202 9 [4,6,7]∧qb 202 10 [4]∧qb 202 11 [4,6,7]∧qb 202 12 [4]∧qb 202 13 [4,6,7]∧qb 202 14 [4]∧qb 202 15 [4,6,7]∧qb 202 16 [4]∧qb 202 17 [4,7]:=by and_intros<;>exact fun _ _ _=>rfl
end Go.Ev.S
namespace Go.Ev.S
open Go Go.Proofs Go.Ev
abbrev qx (n s:Nat) (a:Bool) (b:Nat) (z:D):Prop:=qr Tryz.prog n = s∧Ju Tryz.prog n = some a∧bytesOf Tryz.prog n = b∧JU Tryz.prog n = some z
@[simp] theorem qt1:qx 1 1 false 8 (.nilf):=by and_intros<;>kernel_rfl
@[simp] theorem qt2:qx 2 1 false 8 (.int .i64 0):=by and_intros<;>kernel_rfl
@[simp] theorem cq2:Xh Tryz.prog 2 = true:=by kernel_rfl
@[simp] theorem un2:Tryz.prog.underlying 2 = some (.int .i64):=by kernel_rfl
@[simp] theorem qt3:qx 3 1 false 8 (.int .i64 0):=by and_intros<;>kernel_rfl
@[simp] theorem cq3:Xh Tryz.prog 3 = true:=by kernel_rfl
@[simp] theorem un3:Tryz.prog.underlying 3 = some (.int .i64):=by kernel_rfl
@[simp] theorem qt4:qx 4 1 false 1 (.bool false):=by and_intros<;>kernel_rfl
@[simp] theorem un4:Tryz.prog.underlying 4 = some .bool:=by kernel_rfl
@[simp] theorem qt5:qx 5 1 false 1 (.int .u8 0):=by and_intros<;>kernel_rfl
@[simp] theorem cq5:Xh Tryz.prog 5 = true:=by kernel_rfl
@[simp] theorem un5:Tryz.prog.underlying 5 = some (.int .u8):=by kernel_rfl
@[simp] theorem qt9:qx 9 1 false 16 (.str []):=by and_intros<;>kernel_rfl
@[simp] theorem un9:Tryz.prog.underlying 9 = some .string:=by kernel_rfl
@[simp] theorem qyq:qx 21 1 false 4 (.int .i32 0):=by and_intros<;>kernel_rfl
@[simp] theorem q5s:Xh Tryz.prog 21 = true:=by kernel_rfl
@[simp] theorem qwZ:Tryz.prog.underlying 21 = some (.int .i32):=by kernel_rfl
@[simp] theorem qyp:qx 22 1 false 24 (.vsl true [] 0):=by and_intros<;>kernel_rfl
@[simp] theorem ql8:Tryz.prog.underlying 22 = some (.slice 28):=by kernel_rfl
@[simp] theorem qyo:qx 23 16 true 16 (.agg [.int .u8 0,.int .u8 0,.int .u8 0,.int .u8 0,.int .u8 0,.int .u8 0,.int .u8 0,.int .u8 0,.int .u8 0,.int .u8 0,.int .u8 0,.int .u8 0,.int .u8 0,.int .u8 0,.int .u8 0,.int .u8 0]):=by and_intros<;>kernel_rfl
@[simp] theorem qwY:Tryz.prog.underlying 23 = some (.array 16 5):=by kernel_rfl
@[simp] theorem qyk:qx 24 16 true 16 (.agg [.int .u8 0,.int .u8 0,.int .u8 0,.int .u8 0,.int .u8 0,.int .u8 0,.int .u8 0,.int .u8 0,.int .u8 0,.int .u8 0,.int .u8 0,.int .u8 0,.int .u8 0,.int .u8 0,.int .u8 0,.int .u8 0]):=by and_intros<;>kernel_rfl
@[simp] theorem ql7:Tryz.prog.underlying 24 = some (.array 16 5):=by kernel_rfl
@[simp] theorem qyf:qx 25 1 false 8 (.int .u64 0):=by and_intros<;>kernel_rfl
@[simp] theorem q5q:Xh Tryz.prog 25 = true:=by kernel_rfl
@[simp] theorem ql6:Tryz.prog.underlying 25 = some (.int .u64):=by kernel_rfl
@[simp] theorem qyd:qx 26 1 false 24 (.vsl true [] 0):=by and_intros<;>kernel_rfl
@[simp] theorem ql5:Tryz.prog.underlying 26 = some (.slice 5):=by kernel_rfl
@[simp] theorem qxV:qx 28 1 false 24 (.vsl true [] 0):=by and_intros<;>kernel_rfl
@[simp] theorem ql4:Tryz.prog.underlying 28 = some (.slice 3):=by kernel_rfl
@[simp] theorem qxM:qx 29 1 false 8 (.nilp):=by and_intros<;>kernel_rfl
@[simp] theorem qwL:Tryz.prog.underlying 29 = some (.pointer 81):=by kernel_rfl
@[simp] theorem qxH:qx 32 19 true 40 (.agg [.int .i64 0,.int .u8 0,.int .u8 0,.int .u8 0,.int .u8 0,.int .u8 0,.int .u8 0,.int .u8 0,.int .u8 0,.int .u8 0,.int .u8 0,.int .u8 0,.int .u8 0,.int .u8 0,.int .u8 0,.int .u8 0,.int .u8 0,.int .u64 0,.int .u64 0]):=by and_intros<;>kernel_rfl
attribute [simp] Tryz.underlying32
@[simp] theorem qxG:qx 33 19 true 40 (.agg [.int .i64 0,.int .u8 0,.int .u8 0,.int .u8 0,.int .u8 0,.int .u8 0,.int .u8 0,.int .u8 0,.int .u8 0,.int .u8 0,.int .u8 0,.int .u8 0,.int .u8 0,.int .u8 0,.int .u8 0,.int .u8 0,.int .u8 0,.int .u64 0,.int .u64 0]):=by and_intros<;>kernel_rfl
attribute [simp] Tryz.underlying33
@[simp] theorem qxF:qx 36 1 false 24 (.vsl true [] 0):=by and_intros<;>kernel_rfl
@[simp] theorem qwJ:Tryz.prog.underlying 36 = some (.slice 42):=by kernel_rfl
@[simp] theorem qxE:qx 37 1 false 24 (.vsl true [] 0):=by and_intros<;>kernel_rfl
@[simp] theorem qwI:Tryz.prog.underlying 37 = some (.slice 9):=by kernel_rfl
@[simp] theorem qxC:qx 40 1 false 8 (.nilp):=by and_intros<;>kernel_rfl
@[simp] theorem qwG:Tryz.prog.underlying 40 = some (.pointer 93):=by kernel_rfl
@[simp] theorem qxB:qx 41 21 true 64 (.agg [.str [],.int .i64 0,.int .u8 0,.int .u8 0,.int .u8 0,.int .u8 0,.int .u8 0,.int .u8 0,.int .u8 0,.int .u8 0,.int .u8 0,.int .u8 0,.int .u8 0,.int .u8 0,.int .u8 0,.int .u8 0,.int .u8 0,.int .u8 0,.int .u64 0,.int .u64 0,.nilp]):=by and_intros<;>kernel_rfl
attribute [simp] Tryz.underlying41
@[simp] theorem qxA:qx 42 21 true 64 (.agg [.str [],.int .i64 0,.int .u8 0,.int .u8 0,.int .u8 0,.int .u8 0,.int .u8 0,.int .u8 0,.int .u8 0,.int .u8 0,.int .u8 0,.int .u8 0,.int .u8 0,.int .u8 0,.int .u8 0,.int .u8 0,.int .u8 0,.int .u8 0,.int .u64 0,.int .u64 0,.nilp]):=by and_intros<;>kernel_rfl
attribute [simp] Tryz.underlying42
@[simp] theorem qx9:qx 43 1 false 4 (.int .u32 0):=by and_intros<;>kernel_rfl
@[simp] theorem q5o:Xh Tryz.prog 43 = true:=by kernel_rfl
@[simp] theorem qwF:Tryz.prog.underlying 43 = some (.int .u32):=by kernel_rfl
@[simp] theorem qx8:qx 44 91 true 264 (.agg [.int .u32 0,.int .u32 0,.int .i64 0,.int .u8 0,.int .u8 0,.int .u8 0,.int .u8 0,.int .u8 0,.int .u8 0,.int .u8 0,.int .u8 0,.int .u8 0,.int .u8 0,.int .u8 0,.int .u8 0,.int .u8 0,.int .u8 0,.int .u8 0,.int .u8 0,.int .u8 0,.int .u8 0,.int .u8 0,.int .u8 0,.int .u8 0,.int .u8 0,.int .u8 0,.int .u8 0,.int .u8 0,.int .u8 0,.int .u8 0,.int .u8 0,.int .u8 0,.int .u8 0,.int .u8 0,.int .u8 0,.int .u8 0,.int .u8 0,.int .u8 0,.int .u8 0,.int .u8 0,.int .u8 0,.int .u8 0,.int .u8 0,.int .u8 0,.int .u8 0,.int .u8 0,.int .u8 0,.int .u8 0,.int .u8 0,.int .u8 0,.int .u8 0,.int .u8 0,.int .u8 0,.int .u8 0,.int .u8 0,.int .u8 0,.int .u8 0,.int .u8 0,.int .u8 0,.int .u8 0,.int .u8 0,.int .u8 0,.int .u8 0,.int .u8 0,.int .u8 0,.int .u8 0,.int .u8 0,.int .u64 0,.int .u64 0,.int .u64 0,.int .u64 0,.int .u64 0,.int .u64 0,.int .u64 0,.int .u64 0,.int .u64 0,.int .u64 0,.int .u64 0,.int .u64 0,.int .u64 0,.int .u64 0,.int .u64 0,.int .u64 0,.int .u64 0,.int .u64 0,.int .u64 0,.int .u64 0,.int .u64 0,.int .u32 0,.int .u32 0,.int .u64 0]):=by and_intros<;>kernel_rfl
attribute [simp] Tryz.underlying44
@[simp] theorem qx7:qx 45 91 true 264 (.agg [.int .u32 0,.int .u32 0,.int .i64 0,.int .u8 0,.int .u8 0,.int .u8 0,.int .u8 0,.int .u8 0,.int .u8 0,.int .u8 0,.int .u8 0,.int .u8 0,.int .u8 0,.int .u8 0,.int .u8 0,.int .u8 0,.int .u8 0,.int .u8 0,.int .u8 0,.int .u8 0,.int .u8 0,.int .u8 0,.int .u8 0,.int .u8 0,.int .u8 0,.int .u8 0,.int .u8 0,.int .u8 0,.int .u8 0,.int .u8 0,.int .u8 0,.int .u8 0,.int .u8 0,.int .u8 0,.int .u8 0,.int .u8 0,.int .u8 0,.int .u8 0,.int .u8 0,.int .u8 0,.int .u8 0,.int .u8 0,.int .u8 0,.int .u8 0,.int .u8 0,.int .u8 0,.int .u8 0,.int .u8 0,.int .u8 0,.int .u8 0,.int .u8 0,.int .u8 0,.int .u8 0,.int .u8 0,.int .u8 0,.int .u8 0,.int .u8 0,.int .u8 0,.int .u8 0,.int .u8 0,.int .u8 0,.int .u8 0,.int .u8 0,.int .u8 0,.int .u8 0,.int .u8 0,.int .u8 0,.int .u64 0,.int .u64 0,.int .u64 0,.int .u64 0,.int .u64 0,.int .u64 0,.int .u64 0,.int .u64 0,.int .u64 0,.int .u64 0,.int .u64 0,.int .u64 0,.int .u64 0,.int .u64 0,.int .u64 0,.int .u64 0,.int .u64 0,.int .u64 0,.int .u64 0,.int .u64 0,.int .u64 0,.int .u32 0,.int .u32 0,.int .u64 0]):=by and_intros<;>kernel_rfl
attribute [simp] Tryz.underlying45
@[simp] theorem qx5:qx 54 1 false 8 (.nilp):=by and_intros<;>kernel_rfl
@[simp] theorem qwE:Tryz.prog.underlying 54 = some (.pointer 56):=by kernel_rfl
@[simp] theorem qx4:qx 55 2 true 32 (.agg [.vsl true [] 0,.int .i64 0]):=by and_intros<;>kernel_rfl
attribute [simp] Tryz.underlying55
@[simp] theorem qx3:qx 56 2 true 32 (.agg [.vsl true [] 0,.int .i64 0]):=by and_intros<;>kernel_rfl
attribute [simp] Tryz.underlying56
@[simp] theorem qx2:qx 60 19 true 40 (.agg [.int .i64 0,.int .u8 0,.int .u8 0,.int .u8 0,.int .u8 0,.int .u8 0,.int .u8 0,.int .u8 0,.int .u8 0,.int .u8 0,.int .u8 0,.int .u8 0,.int .u8 0,.int .u8 0,.int .u8 0,.int .u8 0,.int .u8 0,.int .u64 0,.int .u64 0]):=by and_intros<;>kernel_rfl
attribute [simp] Tryz.underlying60
@[simp] theorem qx1:qx 61 1 false 8 (.nilp):=by and_intros<;>kernel_rfl
@[simp] theorem qwD:Tryz.prog.underlying 61 = some (.pointer 120):=by kernel_rfl
@[simp] theorem qx0:qx 62 1 false 24 (.vsl true [] 0):=by and_intros<;>kernel_rfl
@[simp] theorem qwC:Tryz.prog.underlying 62 = some (.slice 109):=by kernel_rfl
@[simp] theorem qxz:qx 69 1 false 8 (.nilp):=by and_intros<;>kernel_rfl
@[simp] theorem qwB:Tryz.prog.underlying 69 = some (.pointer 77):=by kernel_rfl
@[simp] theorem qxy:qx 74 1 false 8 (.nilp):=by and_intros<;>kernel_rfl
@[simp] theorem qwA:Tryz.prog.underlying 74 = some (.pointer 127):=by kernel_rfl
@[simp] theorem qxx:qx 76 3 true 32 (.agg [.str [],.bool false,.nilp]):=by and_intros<;>kernel_rfl
attribute [simp] Tryz.underlying76
@[simp] theorem qxw:qx 77 3 true 32 (.agg [.str [],.bool false,.nilp]):=by and_intros<;>kernel_rfl
attribute [simp] Tryz.underlying77
@[simp] theorem qxv:qx 78 1 false 24 (.vsl true [] 0):=by and_intros<;>kernel_rfl
@[simp] theorem qw9:Tryz.prog.underlying 78 = some (.slice 69):=by kernel_rfl
@[simp] theorem qxu:qx 79 1 false 24 (.vsl true [] 0):=by and_intros<;>kernel_rfl
@[simp] theorem qw8:Tryz.prog.underlying 79 = some (.slice 83):=by kernel_rfl
@[simp] theorem qxt:qx 80 5 true 72 (.agg [.int .i64 0,.int .i64 0,.bool false,.vsl true [] 0,.vsl true [] 0]):=by and_intros<;>kernel_rfl
attribute [simp] Tryz.underlying80
@[simp] theorem qxs:qx 81 5 true 72 (.agg [.int .i64 0,.int .i64 0,.bool false,.vsl true [] 0,.vsl true [] 0]):=by and_intros<;>kernel_rfl
attribute [simp] Tryz.underlying81
@[simp] theorem qxr:qx 82 4 true 40 (.agg [.int .i64 0,.nilp,.str [],.nilp]):=by and_intros<;>kernel_rfl
attribute [simp] Tryz.underlying82
@[simp] theorem qxq:qx 83 4 true 40 (.agg [.int .i64 0,.nilp,.str [],.nilp]):=by and_intros<;>kernel_rfl
attribute [simp] Tryz.underlying83
@[simp] theorem qxo:qx 90 1 false 8 (.nilp):=by and_intros<;>kernel_rfl
@[simp] theorem qw6:Tryz.prog.underlying 90 = some (.pointer 135):=by kernel_rfl
@[simp] theorem qxn:qx 91 1 false 24 (.vsl true [] 0):=by and_intros<;>kernel_rfl
@[simp] theorem qw5:Tryz.prog.underlying 91 = some (.slice 25):=by kernel_rfl
@[simp] theorem qxm:qx 92 5 true 72 (.agg [.nilp,.vsl true [] 0,.int .i64 0,.vsl true [] 0,.bool false]):=by and_intros<;>kernel_rfl
attribute [simp] Tryz.underlying92
@[simp] theorem qxl:qx 93 5 true 72 (.agg [.nilp,.vsl true [] 0,.int .i64 0,.vsl true [] 0,.bool false]):=by and_intros<;>kernel_rfl
attribute [simp] Tryz.underlying93
@[simp] theorem qyU:qx 103 52 true 80 (.agg [.int .u8 0,.int .u8 0,.int .u8 0,.int .u8 0,.int .u8 0,.int .u8 0,.int .u8 0,.int .u8 0,.int .u8 0,.int .u8 0,.int .u8 0,.int .u8 0,.int .u8 0,.int .u8 0,.int .u8 0,.int .u8 0,.int .u8 0,.int .u8 0,.int .u8 0,.int .u8 0,.int .u8 0,.int .u8 0,.int .u8 0,.int .u8 0,.int .u8 0,.int .u8 0,.int .u8 0,.int .u8 0,.int .u8 0,.int .u8 0,.int .u8 0,.int .u8 0,.int .u8 0,.int .u8 0,.int .u8 0,.int .u8 0,.int .u8 0,.int .u8 0,.int .u8 0,.int .u8 0,.int .u8 0,.int .u8 0,.int .u8 0,.int .u8 0,.int .u8 0,.int .u8 0,.int .u8 0,.int .u8 0,.int .i64 0,.int .i64 0,.int .i64 0,.bool false]):=by and_intros<;>kernel_rfl
attribute [simp] Tryz.underlying103
@[simp] theorem qyT:qx 104 52 true 80 (.agg [.int .u8 0,.int .u8 0,.int .u8 0,.int .u8 0,.int .u8 0,.int .u8 0,.int .u8 0,.int .u8 0,.int .u8 0,.int .u8 0,.int .u8 0,.int .u8 0,.int .u8 0,.int .u8 0,.int .u8 0,.int .u8 0,.int .u8 0,.int .u8 0,.int .u8 0,.int .u8 0,.int .u8 0,.int .u8 0,.int .u8 0,.int .u8 0,.int .u8 0,.int .u8 0,.int .u8 0,.int .u8 0,.int .u8 0,.int .u8 0,.int .u8 0,.int .u8 0,.int .u8 0,.int .u8 0,.int .u8 0,.int .u8 0,.int .u8 0,.int .u8 0,.int .u8 0,.int .u8 0,.int .u8 0,.int .u8 0,.int .u8 0,.int .u8 0,.int .u8 0,.int .u8 0,.int .u8 0,.int .u8 0,.int .i64 0,.int .i64 0,.int .i64 0,.bool false]):=by and_intros<;>kernel_rfl
attribute [simp] Tryz.underlying104
@[simp] theorem qyS:qx 107 1 false 24 (.vsl true [] 0):=by and_intros<;>kernel_rfl
@[simp] theorem qxi:Tryz.prog.underlying 107 = some (.slice 155):=by kernel_rfl
@[simp] theorem qyR:qx 108 20 true 64 (.agg [.int .u64 0,.int .u64 0,.int .u64 0,.int .u8 0,.int .u8 0,.int .u8 0,.int .u8 0,.int .u8 0,.int .u8 0,.int .u8 0,.int .u8 0,.int .u8 0,.int .u8 0,.int .u8 0,.int .u8 0,.int .u8 0,.int .u8 0,.int .u8 0,.int .u8 0,.vsl true [] 0]):=by and_intros<;>kernel_rfl
attribute [simp] Tryz.underlying108
@[simp] theorem qyQ:qx 109 20 true 64 (.agg [.int .u64 0,.int .u64 0,.int .u64 0,.int .u8 0,.int .u8 0,.int .u8 0,.int .u8 0,.int .u8 0,.int .u8 0,.int .u8 0,.int .u8 0,.int .u8 0,.int .u8 0,.int .u8 0,.int .u8 0,.int .u8 0,.int .u8 0,.int .u8 0,.int .u8 0,.vsl true [] 0]):=by and_intros<;>kernel_rfl
attribute [simp] Tryz.underlying109
@[simp] theorem qyP:qx 115 20 true 160 (.agg [.int .u64 0,.int .u64 0,.int .u64 0,.int .u64 0,.int .u64 0,.int .u64 0,.int .u64 0,.int .u64 0,.int .u64 0,.int .u64 0,.int .u64 0,.int .u64 0,.int .u64 0,.int .u64 0,.int .u64 0,.int .u64 0,.int .u64 0,.int .u64 0,.int .u64 0,.int .u64 0]):=by and_intros<;>kernel_rfl
@[simp] theorem qxh:Tryz.prog.underlying 115 = some (.array 20 25):=by kernel_rfl
@[simp] theorem qyO:qx 116 90 true 256 (.agg [.int .u32 0,.int .u32 0,.int .i64 0,.int .u8 0,.int .u8 0,.int .u8 0,.int .u8 0,.int .u8 0,.int .u8 0,.int .u8 0,.int .u8 0,.int .u8 0,.int .u8 0,.int .u8 0,.int .u8 0,.int .u8 0,.int .u8 0,.int .u8 0,.int .u8 0,.int .u8 0,.int .u8 0,.int .u8 0,.int .u8 0,.int .u8 0,.int .u8 0,.int .u8 0,.int .u8 0,.int .u8 0,.int .u8 0,.int .u8 0,.int .u8 0,.int .u8 0,.int .u8 0,.int .u8 0,.int .u8 0,.int .u8 0,.int .u8 0,.int .u8 0,.int .u8 0,.int .u8 0,.int .u8 0,.int .u8 0,.int .u8 0,.int .u8 0,.int .u8 0,.int .u8 0,.int .u8 0,.int .u8 0,.int .u8 0,.int .u8 0,.int .u8 0,.int .u8 0,.int .u8 0,.int .u8 0,.int .u8 0,.int .u8 0,.int .u8 0,.int .u8 0,.int .u8 0,.int .u8 0,.int .u8 0,.int .u8 0,.int .u8 0,.int .u8 0,.int .u8 0,.int .u8 0,.int .u8 0,.int .u64 0,.int .u64 0,.int .u64 0,.int .u64 0,.int .u64 0,.int .u64 0,.int .u64 0,.int .u64 0,.int .u64 0,.int .u64 0,.int .u64 0,.int .u64 0,.int .u64 0,.int .u64 0,.int .u64 0,.int .u64 0,.int .u64 0,.int .u64 0,.int .u64 0,.int .u64 0,.int .u32 0,.int .u32 0,.int .u64 0]):=by and_intros<;>kernel_rfl
attribute [simp] Tryz.underlying116
@[simp] theorem qyN:qx 117 90 true 256 (.agg [.int .u32 0,.int .u32 0,.int .i64 0,.int .u8 0,.int .u8 0,.int .u8 0,.int .u8 0,.int .u8 0,.int .u8 0,.int .u8 0,.int .u8 0,.int .u8 0,.int .u8 0,.int .u8 0,.int .u8 0,.int .u8 0,.int .u8 0,.int .u8 0,.int .u8 0,.int .u8 0,.int .u8 0,.int .u8 0,.int .u8 0,.int .u8 0,.int .u8 0,.int .u8 0,.int .u8 0,.int .u8 0,.int .u8 0,.int .u8 0,.int .u8 0,.int .u8 0,.int .u8 0,.int .u8 0,.int .u8 0,.int .u8 0,.int .u8 0,.int .u8 0,.int .u8 0,.int .u8 0,.int .u8 0,.int .u8 0,.int .u8 0,.int .u8 0,.int .u8 0,.int .u8 0,.int .u8 0,.int .u8 0,.int .u8 0,.int .u8 0,.int .u8 0,.int .u8 0,.int .u8 0,.int .u8 0,.int .u8 0,.int .u8 0,.int .u8 0,.int .u8 0,.int .u8 0,.int .u8 0,.int .u8 0,.int .u8 0,.int .u8 0,.int .u8 0,.int .u8 0,.int .u8 0,.int .u8 0,.int .u64 0,.int .u64 0,.int .u64 0,.int .u64 0,.int .u64 0,.int .u64 0,.int .u64 0,.int .u64 0,.int .u64 0,.int .u64 0,.int .u64 0,.int .u64 0,.int .u64 0,.int .u64 0,.int .u64 0,.int .u64 0,.int .u64 0,.int .u64 0,.int .u64 0,.int .u64 0,.int .u32 0,.int .u32 0,.int .u64 0]):=by and_intros<;>kernel_rfl
attribute [simp] Tryz.underlying117
@[simp] theorem qyM:qx 118 1 false 24 (.vsl true [] 0):=by and_intros<;>kernel_rfl
@[simp] theorem qxg:Tryz.prog.underlying 118 = some (.slice 157):=by kernel_rfl
@[simp] theorem qyL:qx 119 147 true 440 (.agg [.int .u8 0,.int .u8 0,.int .u8 0,.int .u8 0,.int .u8 0,.int .u8 0,.int .u8 0,.int .u8 0,.int .u8 0,.int .u8 0,.int .u8 0,.int .u8 0,.int .u8 0,.int .u8 0,.int .u8 0,.int .u8 0,.int .u8 0,.int .u8 0,.int .u8 0,.int .u8 0,.int .u8 0,.int .u8 0,.int .u8 0,.int .u8 0,.int .u8 0,.int .u8 0,.int .u8 0,.int .u8 0,.int .u8 0,.int .u8 0,.int .u8 0,.int .u8 0,.int .u8 0,.int .u8 0,.int .u8 0,.int .u8 0,.int .u8 0,.int .u8 0,.int .u8 0,.int .u8 0,.int .u8 0,.int .u8 0,.int .u8 0,.int .u8 0,.int .u8 0,.int .u8 0,.int .u8 0,.int .u8 0,.int .i64 0,.int .i64 0,.int .i64 0,.bool false,.int .u32 0,.int .u32 0,.int .i64 0,.int .u8 0,.int .u8 0,.int .u8 0,.int .u8 0,.int .u8 0,.int .u8 0,.int .u8 0,.int .u8 0,.int .u8 0,.int .u8 0,.int .u8 0,.int .u8 0,.int .u8 0,.int .u8 0,.int .u8 0,.int .u8 0,.int .u8 0,.int .u8 0,.int .u8 0,.int .u8 0,.int .u8 0,.int .u8 0,.int .u8 0,.int .u8 0,.int .u8 0,.int .u8 0,.int .u8 0,.int .u8 0,.int .u8 0,.int .u8 0,.int .u8 0,.int .u8 0,.int .u8 0,.int .u8 0,.int .u8 0,.int .u8 0,.int .u8 0,.int .u8 0,.int .u8 0,.int .u8 0,.int .u8 0,.int .u8 0,.int .u8 0,.int .u8 0,.int .u8 0,.int .u8 0,.int .u8 0,.int .u8 0,.int .u8 0,.int .u8 0,.int .u8 0,.int .u8 0,.int .u8 0,.int .u8 0,.int .u8 0,.int .u8 0,.int .u8 0,.int .u8 0,.int .u8 0,.int .u8 0,.int .u8 0,.int .u8 0,.int .u8 0,.int .u8 0,.int .u64 0,.int .u64 0,.int .u64 0,.int .u64 0,.int .u64 0,.int .u64 0,.int .u64 0,.int .u64 0,.int .u64 0,.int .u64 0,.int .u64 0,.int .u64 0,.int .u64 0,.int .u64 0,.int .u64 0,.int .u64 0,.int .u64 0,.int .u64 0,.int .u64 0,.int .u64 0,.int .u32 0,.int .u32 0,.int .u64 0,.int .u64 0,.vsl true [] 0,.vsl true [] 0,.vsl true [] 0,.vsl true [] 0]):=by and_intros<;>kernel_rfl
attribute [simp] Tryz.underlying119
@[simp] theorem qyK:qx 120 147 true 440 (.agg [.int .u8 0,.int .u8 0,.int .u8 0,.int .u8 0,.int .u8 0,.int .u8 0,.int .u8 0,.int .u8 0,.int .u8 0,.int .u8 0,.int .u8 0,.int .u8 0,.int .u8 0,.int .u8 0,.int .u8 0,.int .u8 0,.int .u8 0,.int .u8 0,.int .u8 0,.int .u8 0,.int .u8 0,.int .u8 0,.int .u8 0,.int .u8 0,.int .u8 0,.int .u8 0,.int .u8 0,.int .u8 0,.int .u8 0,.int .u8 0,.int .u8 0,.int .u8 0,.int .u8 0,.int .u8 0,.int .u8 0,.int .u8 0,.int .u8 0,.int .u8 0,.int .u8 0,.int .u8 0,.int .u8 0,.int .u8 0,.int .u8 0,.int .u8 0,.int .u8 0,.int .u8 0,.int .u8 0,.int .u8 0,.int .i64 0,.int .i64 0,.int .i64 0,.bool false,.int .u32 0,.int .u32 0,.int .i64 0,.int .u8 0,.int .u8 0,.int .u8 0,.int .u8 0,.int .u8 0,.int .u8 0,.int .u8 0,.int .u8 0,.int .u8 0,.int .u8 0,.int .u8 0,.int .u8 0,.int .u8 0,.int .u8 0,.int .u8 0,.int .u8 0,.int .u8 0,.int .u8 0,.int .u8 0,.int .u8 0,.int .u8 0,.int .u8 0,.int .u8 0,.int .u8 0,.int .u8 0,.int .u8 0,.int .u8 0,.int .u8 0,.int .u8 0,.int .u8 0,.int .u8 0,.int .u8 0,.int .u8 0,.int .u8 0,.int .u8 0,.int .u8 0,.int .u8 0,.int .u8 0,.int .u8 0,.int .u8 0,.int .u8 0,.int .u8 0,.int .u8 0,.int .u8 0,.int .u8 0,.int .u8 0,.int .u8 0,.int .u8 0,.int .u8 0,.int .u8 0,.int .u8 0,.int .u8 0,.int .u8 0,.int .u8 0,.int .u8 0,.int .u8 0,.int .u8 0,.int .u8 0,.int .u8 0,.int .u8 0,.int .u8 0,.int .u8 0,.int .u8 0,.int .u8 0,.int .u64 0,.int .u64 0,.int .u64 0,.int .u64 0,.int .u64 0,.int .u64 0,.int .u64 0,.int .u64 0,.int .u64 0,.int .u64 0,.int .u64 0,.int .u64 0,.int .u64 0,.int .u64 0,.int .u64 0,.int .u64 0,.int .u64 0,.int .u64 0,.int .u64 0,.int .u64 0,.int .u32 0,.int .u32 0,.int .u64 0,.int .u64 0,.vsl true [] 0,.vsl true [] 0,.vsl true [] 0,.vsl true [] 0]):=by and_intros<;>kernel_rfl
attribute [simp] Tryz.underlying120
@[simp] theorem qyJ:qx 122 1 false 8 (.int .u64 0):=by and_intros<;>kernel_rfl
@[simp] theorem q5u:Xh Tryz.prog 122 = true:=by kernel_rfl
@[simp] theorem qxf:Tryz.prog.underlying 122 = some (.int .u64):=by kernel_rfl
@[simp] theorem qyI:qx 126 2 true 48 (.agg [.vsl true [] 0,.vsl true [] 0]):=by and_intros<;>kernel_rfl
attribute [simp] Tryz.underlying126
@[simp] theorem qyH:qx 127 2 true 48 (.agg [.vsl true [] 0,.vsl true [] 0]):=by and_intros<;>kernel_rfl
attribute [simp] Tryz.underlying127
@[simp] theorem qyG:qx 134 92 true 288 (.agg [.vsl true [] 0,.int .u32 0,.int .u32 0,.int .i64 0,.int .u8 0,.int .u8 0,.int .u8 0,.int .u8 0,.int .u8 0,.int .u8 0,.int .u8 0,.int .u8 0,.int .u8 0,.int .u8 0,.int .u8 0,.int .u8 0,.int .u8 0,.int .u8 0,.int .u8 0,.int .u8 0,.int .u8 0,.int .u8 0,.int .u8 0,.int .u8 0,.int .u8 0,.int .u8 0,.int .u8 0,.int .u8 0,.int .u8 0,.int .u8 0,.int .u8 0,.int .u8 0,.int .u8 0,.int .u8 0,.int .u8 0,.int .u8 0,.int .u8 0,.int .u8 0,.int .u8 0,.int .u8 0,.int .u8 0,.int .u8 0,.int .u8 0,.int .u8 0,.int .u8 0,.int .u8 0,.int .u8 0,.int .u8 0,.int .u8 0,.int .u8 0,.int .u8 0,.int .u8 0,.int .u8 0,.int .u8 0,.int .u8 0,.int .u8 0,.int .u8 0,.int .u8 0,.int .u8 0,.int .u8 0,.int .u8 0,.int .u8 0,.int .u8 0,.int .u8 0,.int .u8 0,.int .u8 0,.int .u8 0,.int .u8 0,.int .u64 0,.int .u64 0,.int .u64 0,.int .u64 0,.int .u64 0,.int .u64 0,.int .u64 0,.int .u64 0,.int .u64 0,.int .u64 0,.int .u64 0,.int .u64 0,.int .u64 0,.int .u64 0,.int .u64 0,.int .u64 0,.int .u64 0,.int .u64 0,.int .u64 0,.int .u64 0,.int .u64 0,.int .u32 0,.int .u32 0,.int .u64 0]):=by and_intros<;>kernel_rfl
attribute [simp] Tryz.underlying134
@[simp] theorem qyF:qx 135 92 true 288 (.agg [.vsl true [] 0,.int .u32 0,.int .u32 0,.int .i64 0,.int .u8 0,.int .u8 0,.int .u8 0,.int .u8 0,.int .u8 0,.int .u8 0,.int .u8 0,.int .u8 0,.int .u8 0,.int .u8 0,.int .u8 0,.int .u8 0,.int .u8 0,.int .u8 0,.int .u8 0,.int .u8 0,.int .u8 0,.int .u8 0,.int .u8 0,.int .u8 0,.int .u8 0,.int .u8 0,.int .u8 0,.int .u8 0,.int .u8 0,.int .u8 0,.int .u8 0,.int .u8 0,.int .u8 0,.int .u8 0,.int .u8 0,.int .u8 0,.int .u8 0,.int .u8 0,.int .u8 0,.int .u8 0,.int .u8 0,.int .u8 0,.int .u8 0,.int .u8 0,.int .u8 0,.int .u8 0,.int .u8 0,.int .u8 0,.int .u8 0,.int .u8 0,.int .u8 0,.int .u8 0,.int .u8 0,.int .u8 0,.int .u8 0,.int .u8 0,.int .u8 0,.int .u8 0,.int .u8 0,.int .u8 0,.int .u8 0,.int .u8 0,.int .u8 0,.int .u8 0,.int .u8 0,.int .u8 0,.int .u8 0,.int .u8 0,.int .u64 0,.int .u64 0,.int .u64 0,.int .u64 0,.int .u64 0,.int .u64 0,.int .u64 0,.int .u64 0,.int .u64 0,.int .u64 0,.int .u64 0,.int .u64 0,.int .u64 0,.int .u64 0,.int .u64 0,.int .u64 0,.int .u64 0,.int .u64 0,.int .u64 0,.int .u64 0,.int .u64 0,.int .u32 0,.int .u32 0,.int .u64 0]):=by and_intros<;>kernel_rfl
attribute [simp] Tryz.underlying135
@[simp] theorem qyE:qx 138 1 false 8 (.nilf):=by and_intros<;>kernel_rfl
@[simp] theorem qyD:qx 141 1 false 16 (.nili):=by and_intros<;>kernel_rfl
attribute [simp] Tryz.underlying141
@[simp] theorem qyC:qx 142 1 false 16 (.nili):=by and_intros<;>kernel_rfl
attribute [simp] Tryz.underlying142
@[simp] theorem qyB:qx 146 1 false 24 (.vsl true [] 0):=by and_intros<;>kernel_rfl
@[simp] theorem qxe:Tryz.prog.underlying 146 = some (.slice 192):=by kernel_rfl
@[simp] theorem qyA:qx 151 1 false 24 (.vsl true [] 0):=by and_intros<;>kernel_rfl
@[simp] theorem qxd:Tryz.prog.underlying 151 = some (.slice 160):=by kernel_rfl
@[simp] theorem qy9:qx 152 1 false 24 (.vsl true [] 0):=by and_intros<;>kernel_rfl
@[simp] theorem qxc:Tryz.prog.underlying 152 = some (.slice 26):=by kernel_rfl
@[simp] theorem qy8:qx 154 2 true 32 (.agg [.str [],.str []]):=by and_intros<;>kernel_rfl
attribute [simp] Tryz.underlying154
@[simp] theorem qy7:qx 155 2 true 32 (.agg [.str [],.str []]):=by and_intros<;>kernel_rfl
attribute [simp] Tryz.underlying155
@[simp] theorem qy6:qx 156 5 true 64 (.agg [.str [],.int .u64 0,.int .i64 0,.int .i64 0,.vsl true [] 0]):=by and_intros<;>kernel_rfl
attribute [simp] Tryz.underlying156
@[simp] theorem qy5:qx 157 5 true 64 (.agg [.str [],.int .u64 0,.int .i64 0,.int .i64 0,.vsl true [] 0]):=by and_intros<;>kernel_rfl
attribute [simp] Tryz.underlying157
@[simp] theorem qy4:qx 159 2 true 16 (.agg [.int .u64 0,.int .u64 0]):=by and_intros<;>kernel_rfl
attribute [simp] Tryz.underlying159
@[simp] theorem qy3:qx 160 2 true 16 (.agg [.int .u64 0,.int .u64 0]):=by and_intros<;>kernel_rfl
attribute [simp] Tryz.underlying160
@[simp] theorem qy2:qx 164 21 true 72 (.agg [.int .u64 0,.int .u64 0,.int .u64 0,.int .u8 0,.int .u8 0,.int .u8 0,.int .u8 0,.int .u8 0,.int .u8 0,.int .u8 0,.int .u8 0,.int .u8 0,.int .u8 0,.int .u8 0,.int .u8 0,.int .u8 0,.int .u8 0,.int .u8 0,.int .u8 0,.int .u64 0,.vsl true [] 0]):=by and_intros<;>kernel_rfl
attribute [simp] Tryz.underlying164
@[simp] theorem qy1:qx 165 21 true 72 (.agg [.int .u64 0,.int .u64 0,.int .u64 0,.int .u8 0,.int .u8 0,.int .u8 0,.int .u8 0,.int .u8 0,.int .u8 0,.int .u8 0,.int .u8 0,.int .u8 0,.int .u8 0,.int .u8 0,.int .u8 0,.int .u8 0,.int .u8 0,.int .u8 0,.int .u8 0,.int .u64 0,.vsl true [] 0]):=by and_intros<;>kernel_rfl
attribute [simp] Tryz.underlying165
@[simp] theorem qy0:qx 183 3 true 40 (.agg [.vsl true [] 0,.int .u64 0,.int .u64 0]):=by and_intros<;>kernel_rfl
attribute [simp] Tryz.underlying183
@[simp] theorem qyz:qx 184 3 true 40 (.agg [.vsl true [] 0,.int .u64 0,.int .u64 0]):=by and_intros<;>kernel_rfl
attribute [simp] Tryz.underlying184
@[simp] theorem qyy:qx 191 2 true 16 (.agg [.int .u64 0,.int .u64 0]):=by and_intros<;>kernel_rfl
attribute [simp] Tryz.underlying191
@[simp] theorem qyx:qx 192 2 true 16 (.agg [.int .u64 0,.int .u64 0]):=by and_intros<;>kernel_rfl
attribute [simp] Tryz.underlying192
@[simp] theorem qyw:qx 198 7 true 72 (.agg [.int .u64 0,.int .u64 0,.int .u64 0,.int .u64 0,.int .u64 0,.int .u64 0,.vsl true [] 0]):=by and_intros<;>kernel_rfl
attribute [simp] Tryz.underlying198
@[simp] theorem qyv:qx 199 7 true 72 (.agg [.int .u64 0,.int .u64 0,.int .u64 0,.int .u64 0,.int .u64 0,.int .u64 0,.vsl true [] 0]):=by and_intros<;>kernel_rfl
attribute [simp] Tryz.underlying199
@[simp] theorem qyt:qx 205 2 true 32 (.agg [.int .u64 0,.vsl true [] 0]):=by and_intros<;>kernel_rfl
attribute [simp] Tryz.underlying205
@[simp] theorem qys:qx 206 2 true 32 (.agg [.int .u64 0,.vsl true [] 0]):=by and_intros<;>kernel_rfl
attribute [simp] Tryz.underlying206
@[simp] theorem qyr:qx 208 24 true 24 (.agg [.int .u8 0,.int .u8 0,.int .u8 0,.int .u8 0,.int .u8 0,.int .u8 0,.int .u8 0,.int .u8 0,.int .u8 0,.int .u8 0,.int .u8 0,.int .u8 0,.int .u8 0,.int .u8 0,.int .u8 0,.int .u8 0,.int .u8 0,.int .u8 0,.int .u8 0,.int .u8 0,.int .u8 0,.int .u8 0,.int .u8 0,.int .u8 0]):=by and_intros<;>kernel_rfl
@[simp] theorem qxa:Tryz.prog.underlying 208 = some (.array 24 5):=by kernel_rfl
@[simp] theorem qyn:qx 230 2 true 32 (.agg [.int .u64 0,.vsl true [] 0]):=by and_intros<;>kernel_rfl
attribute [simp] Tryz.underlying230
@[simp] theorem qym:qx 235 1 false 8 (.int .i64 0):=by and_intros<;>kernel_rfl
@[simp] theorem q5r:Xh Tryz.prog 235 = true:=by kernel_rfl
@[simp] theorem qwX:Tryz.prog.underlying 235 = some (.int .i64):=by kernel_rfl
@[simp] theorem qyl:qx 237 1 false 8 (.nilp):=by and_intros<;>kernel_rfl
@[simp] theorem qwW:Tryz.prog.underlying 237 = some (.pointer 270):=by kernel_rfl
@[simp] theorem qyj:qx 241 4 true 48 (.agg [.int .u64 0,.int .u64 0,.int .u64 0,.vsl true [] 0]):=by and_intros<;>kernel_rfl
attribute [simp] Tryz.underlying241
@[simp] theorem qyi:qx 242 4 true 48 (.agg [.int .u64 0,.int .u64 0,.int .u64 0,.vsl true [] 0]):=by and_intros<;>kernel_rfl
attribute [simp] Tryz.underlying242
@[simp] theorem qyh:qx 244 4 true 32 (.agg [.int .u64 0,.int .u64 0,.int .u64 0,.int .u64 0]):=by and_intros<;>kernel_rfl
@[simp] theorem qwV:Tryz.prog.underlying 244 = some (.array 4 25):=by kernel_rfl
@[simp] theorem qyg:qx 249 65 true 65 (.agg (List.replicate 65 (.int .u8 0))):=by and_intros<;>kernel_rfl
@[simp] theorem qwU:Tryz.prog.underlying 249 = some (.array 65 5):=by kernel_rfl
@[simp] theorem qye:qx 259 1 false 24 (.vsl true [] 0):=by and_intros<;>kernel_rfl
@[simp] theorem qwT:Tryz.prog.underlying 259 = some (.slice 261):=by kernel_rfl
@[simp] theorem qyc:qx 261 1 false 8 (.nilp):=by and_intros<;>kernel_rfl
@[simp] theorem qwS:Tryz.prog.underlying 261 = some (.pointer 24):=by kernel_rfl
@[simp] theorem qyb:qx 262 1 false 24 (.vsl true [] 0):=by and_intros<;>kernel_rfl
@[simp] theorem qwR:Tryz.prog.underlying 262 = some (.slice 264):=by kernel_rfl
@[simp] theorem qya:qx 264 1 false 8 (.nilp):=by and_intros<;>kernel_rfl
@[simp] theorem qwQ:Tryz.prog.underlying 264 = some (.pointer 25):=by kernel_rfl
@[simp] theorem qxZ:qx 269 3 true 48 (.agg [.str [],.str [],.nili]):=by and_intros<;>kernel_rfl
attribute [simp] Tryz.underlying269
@[simp] theorem qxY:qx 270 3 true 48 (.agg [.str [],.str [],.nili]):=by and_intros<;>kernel_rfl
attribute [simp] Tryz.underlying270
@[simp] theorem qxX:qx 276 1 true 8 (.agg [.int .i64 0]):=by and_intros<;>kernel_rfl
attribute [simp] Tryz.underlying276
@[simp] theorem qxW:qx 277 1 true 8 (.agg [.int .i64 0]):=by and_intros<;>kernel_rfl
attribute [simp] Tryz.underlying277
@[simp] theorem qxU:qx 281 256 true 256 (.agg (List.replicate 256 (.int .u8 0))):=by and_intros<;>kernel_rfl
@[simp] theorem qwP:Tryz.prog.underlying 281 = some (.array 256 5):=by kernel_rfl
@[simp] theorem qxT:qx 282 2 true 2 (.agg [.int .u8 0,.int .u8 0]):=by and_intros<;>kernel_rfl
attribute [simp] Tryz.underlying282
@[simp] theorem qxS:qx 283 2 true 2 (.agg [.int .u8 0,.int .u8 0]):=by and_intros<;>kernel_rfl
attribute [simp] Tryz.underlying283
@[simp] theorem qxR:qx 284 32 true 32 (.agg (List.replicate 32 (.int .u8 0))):=by and_intros<;>kernel_rfl
@[simp] theorem qwO:Tryz.prog.underlying 284 = some (.array 16 283):=by kernel_rfl
@[simp] theorem qxQ:qx 286 1 false 8 (.nilp):=by and_intros<;>kernel_rfl
@[simp] theorem qwN:Tryz.prog.underlying 286 = some (.pointer 288):=by kernel_rfl
@[simp] theorem qxP:qx 287 1 true 16 (.agg [.str []]):=by and_intros<;>kernel_rfl
attribute [simp] Tryz.underlying287
@[simp] theorem qxO:qx 288 1 true 16 (.agg [.str []]):=by and_intros<;>kernel_rfl
attribute [simp] Tryz.underlying288
@[simp] theorem qxN:qx 289 32 true 32 (.agg (List.replicate 32 (.int .u8 0))):=by and_intros<;>kernel_rfl
@[simp] theorem qwM:Tryz.prog.underlying 289 = some (.array 32 5):=by kernel_rfl
@[simp] theorem qxL:qx 290 64 true 64 (.agg (List.replicate 64 (.int .u8 0))):=by and_intros<;>kernel_rfl
@[simp] theorem qwK:Tryz.prog.underlying 290 = some (.array 64 5):=by kernel_rfl
@[simp] theorem qxK:qx 291 3 true 24 (.agg [.int .i64 0,.int .i64 0,.int .u64 0]):=by and_intros<;>kernel_rfl
attribute [simp] Tryz.underlying291
@[simp] theorem qxJ:qx 292 3 true 24 (.agg [.int .i64 0,.int .i64 0,.int .u64 0]):=by and_intros<;>kernel_rfl
attribute [simp] Tryz.underlying292
@[simp] theorem pl3:QJ Tryz.prog 50 3 = some ([.i]):=by kernel_rfl
@[simp] theorem eg3:Tryz.prog.eqGuardType Tryz.prog.depth 3 = false:=by kernel_rfl
@[simp] theorem pl5:QJ Tryz.prog 50 5 = some ([.i]):=by kernel_rfl
@[simp] theorem eg5:Tryz.prog.eqGuardType Tryz.prog.depth 5 = false:=by kernel_rfl
@[simp] theorem pl9:QJ Tryz.prog 50 9 = some ([.s]):=by kernel_rfl
@[simp] theorem eg9:Tryz.prog.eqGuardType Tryz.prog.depth 9 = false:=by kernel_rfl
@[simp] theorem q0n:QJ Tryz.prog 50 21 = some ([.i]):=by kernel_rfl
@[simp] theorem q5j:Tryz.prog.eqGuardType Tryz.prog.depth 21 = false:=by kernel_rfl
@[simp] theorem q0m:QJ Tryz.prog 50 25 = some ([.i]):=by kernel_rfl
@[simp] theorem q5i:Tryz.prog.eqGuardType Tryz.prog.depth 25 = false:=by kernel_rfl
@[simp] theorem q0k:QJ Tryz.prog 50 43 = some ([.i]):=by kernel_rfl
@[simp] theorem q5g:Tryz.prog.eqGuardType Tryz.prog.depth 43 = false:=by kernel_rfl
@[simp] theorem q0j:QJ Tryz.prog 50 45 = some (List.replicate 91 .i):=by kernel_rfl
@[simp] theorem q5f:Tryz.prog.eqGuardType Tryz.prog.depth 45 = false:=by kernel_rfl
@[simp] theorem q0o:QJ Tryz.prog 50 155 = some ([.s,.s]):=by kernel_rfl
@[simp] theorem q5k:Tryz.prog.eqGuardType Tryz.prog.depth 155 = false:=by kernel_rfl
def Yj (n:Int):Bool:=n == 1 || n == 2 || n == 4 || n == 8
theorem qoP [MaxL] [TxtC] (n:Int):call cx 196 [.int .i64 n] [] = some (.bool (Yj n),[]):=by
 refine qA Tryz.func196 rfl ⟨rfl,rfl⟩ ?_;unfold Yj;by_cases h1:n = 1
 ·subst h1;simp [Tryz.f196]
 ·by_cases h2:n = 2
  ·subst h2;simp [Tryz.f196]
  ·by_cases h3:n = 4
   ·subst h3;simp [Tryz.f196]
   ·simp [Tryz.f196,h1,h2,h3]
theorem qlL {n:Int} (h:Yj n = true):1≤n∧n≤8:=by
 simp [Yj] at h;omega
def Xx (l:List UInt8) (at_ n:Int):Option Nat :=
 if Yj n = true∧0≤at_∧at_+n≤l.length then some (vi ((l.drop at_.toNat).take n.toNat)) else none
def qbU (o:Option Nat):D:=.tup [.int .u64 ((o.getD 0:Nat):Int),.bool o.isSome]
theorem bits64:2 ^ IntKind.u64.bits = 18446744073709551616:=by simp only [IntKind.bits]
theorem qoR (x y:Nat) (hy:y < 256) (hx:x * 256+y < 18446744073709551616) :
  Z1 .u64 (IntKind.u64.wrap ((x:Int) * 256)) (y:Int) = ((x * 256+y:Nat):Int):=by
 have e3:x * 256 < 2 ^ IntKind.u64.bits:=Nat.lt_of_lt_of_eq (Nat.lt_of_le_of_lt (Nat.le_add_right _ _) hx) bits64.symm;have e4:y < 2 ^ IntKind.u64.bits:=Nat.lt_of_lt_of_eq (jr hy (by decide)) bits64.symm;have e1:IntKind.u64.wrap ((x:Int) * 256) = ((x * 256:Nat):Int):=by clear e3 e4;rw [qF] <;> omega
 rw [e1,qfb rfl e3 e4,qhX x y hy]
set_option maxHeartbeats 1000000 in
theorem qiF [MaxL] [TxtC] (s:Sl UInt8) (at_ n:Int) (zC:-9223372036854775808≤at_∧at_ < 9223372036854775808) (hl:s.l.length < 4611686018427387904) :
  call cx 177 [(.vsl s.nil (qf s.l) s.l.length),.int .i64 at_,.int .i64 n] [] = some (qbU (Xx s.l at_ n),[]):=by
 have hs:=qoP n;refine qA Tryz.func177 rfl ⟨rfl,rfl⟩ ?_;cases hz:Yj n with
 | false =>
  rw [hz] at hs;simp [Tryz.f177,hs,Xx,hz,qbU]
 | true =>
  rw [hz] at hs;have hb:=qlL hz;by_cases h0:at_ < 0
  ·have j9:¬ 0≤at_:=by omega
   simp [Tryz.f177,hs,Xx,hz,qbU,h0,j9]
  ·have j9:0≤at_:=by omega
   have hw:IntKind.i64.wrap ((s.l.length:Int) - n) = (s.l.length:Int) - n:=(by rw [wrap_i64];omega);by_cases j7:at_+n≤s.l.length
   ·have YE:¬ ((s.l.length:Int) - n < at_):=(by omega);obtain ⟨a,rfl⟩:∃ a:Nat,at_ = a:=⟨at_.toNat,by omega⟩
    obtain ⟨k,rfl⟩:∃ k:Nat,n = k:=⟨n.toNat,by omega⟩;have zB:IntKind.i64.wrap ((k:Int) - 1) = (k:Int) - 1:=(by rw [wrap_i64];omega);have jb:s.nil = false:=Sl.nn (i:=a) (by omega);simp [Tryz.f177,hs,Xx,hz,qbU,h0,j9,hw,j7,YE,zB,jb];refine Run.loopThen (fun (i:Nat) e H=>i≤k∧H = []∧qg e 0 = some (.vsl s.nil (qf s.l) s.l.length)∧qg e 1 = some (.int .i64 a)∧qg e 8 = some (.int .u64 (vi ((s.l.drop (a+i)).take (k - i)):Nat))∧qg e 9 = some (.int .i64 ((i:Int) - 1))) (fun i=>i) k (by simp [vi,jb]) ?_;rintro i e H ⟨hi,rfl,h0,h1,h8,h9⟩;cases i with
    | zero=>simp [h0,h1,h8,h9]
    | succ j =>
     have hj:(0:Int)≤(j:Int):=(by omega);have hwj:IntKind.i64.wrap ((a:Int)+(j:Int)) = ((a+j:Nat):Int):=(by rw [wrap_i64] <;> omega);have Y4:IntKind.i64.wrap ((j:Int) - 1) = (j:Int) - 1:=(by rw [wrap_i64];omega);have qi:a+j < s.l.length:=(by omega);have qq:((a+j:Nat):Int) < (s.l.length:Int):=(by omega);have e1:((j+1:Nat):Int) - 1 = (j:Int):=(by omega);rw [e1] at h9
     have hd:(s.l.drop (a+j)).take (k - j) = s.l[a+j] :: (s.l.drop (a+(j+1))).take (k - (j+1)):=by
      rw [vR qi,show k - j = (k - (j+1))+1 by omega,List.take_succ_cons,qel]
     have hn8:vi ((s.l.drop (a+(j+1))).take (k - (j+1))) < 256 ^ 7:=by
      refine jr (qbd _) (qb6 (by decide) ?_);rw [kt];omega
     have hst:=qoR (vi ((s.l.drop (a+(j+1))).take (k - (j+1)))) s.l[a+j].toNat s.l[a+j].toNat_lt (by have:=s.l[a+j].toNat_lt;omega);have hwu:IntKind.u64.wrap (s.l[a+j].toNat:Int) = (s.l[a+j].toNat:Int):=(by rw [qF];have:=s.l[a+j].toNat_lt;omega);have g1:(0:Int)≤(a:Int)+(j:Int):=(by omega);have g2:(a:Int)+(j:Int) < (s.l.length:Int):=(by omega);have g3:((a:Int)+(j:Int)).toNat = a+j:=(by omega);simp [h0,h1,h8,h9,hj,hwj,Y4,hwu,jb,g1,g2,g3,jK qi,IntKind.bits];rw [hst];exact ⟨j,by omega,by omega,by rw [hd,vi,Nat.mul_comm,Nat.add_comm],rfl⟩
   ·have YE:(s.l.length:Int) - n < at_:=by omega
    simp [Tryz.f177,hs,Xx,hz,qbU,h0,j9,hw,j7,YE]
end Go.Ev.S
namespace Go.Ev
open Go Go.Proofs
def kg (b:List UInt8) (a:Nat):Nat:=vi ((b.drop a).take 8)
theorem qe0 (b:List UInt8) (a:Nat):kg b a < 18446744073709551616:=by
 have h:=qbd ((b.drop a).take 8);have h8:((b.drop a).take 8).length≤8:=by simp;omega
 exact jr h (jA (qb6 (by decide) h8) (by decide))
def QB (b:List UInt8) (a:Nat):Nat :=
 if a % 8≠0 then 3
 else if b.length < a∨b.length - a < 16 then 2
 else if (b.getD a 0).toNat < 1∨7 < (b.getD a 0).toNat then 4
 else if (b.getD (a+1) 0).toNat≠0 then 7
 else if kg b (a+8) < 16 then 5
 else if b.length - a < kg b (a+8) then 2
 else 0
def YW (b:List UInt8) (a:Nat):Nat:=(b.getD a 0).toNat
def Vq (b:List UInt8) (a:Nat):Nat:=kg b (a+8)
theorem qfF {b:List UInt8} {a:Nat} (h:QB b a = 0):a % 8 = 0∧a+16≤b.length∧1≤YW b a∧YW b a≤7∧16≤Vq b a∧a+Vq b a≤b.length:=by
 unfold QB at h;unfold YW Vq;split at h
 · omega
 split at h
 · omega
 split at h
 · omega
 split at h
 · omega
 split at h
 · omega
 split at h
 · omega
 omega
def QW (b:List UInt8) (a:Nat):List UInt8:=(b.drop (a+16)).take (Vq b a - 16)
theorem qkM {b:List UInt8} {a:Nat} (h:QB b a = 0):(QW b a).length = Vq b a - 16:=by
 have:=qfF h;simp only [QW,kt,Zb];omega
def Qj (l:List UInt8):List Nat:=(List.range (l.length / 8)).map fun i=>kg l (8 * i)
@[simp] theorem qil (l:List UInt8):(Qj l).length = l.length / 8:=by simp [Qj]
theorem qog {l:List UInt8} {i:Nat} (h:i < l.length / 8):(Qj l)[i]? = some (kg l (8 * i)):=by
 simp [Qj,h]
theorem qik {l:List UInt8} {x:Nat} (h:x∈Qj l):x < 18446744073709551616:=by
 simp only [Qj,kI,List.mem_range] at h;obtain ⟨i,_,rfl⟩:=h;exact qe0 _ _
def Zu (b:List UInt8) (a kind ahead item:Nat):Nat :=
 if QB b a≠0 then QB b a
 else if YW b a≠kind then 4
 else if Vq b a≤16+ahead∨(Vq b a - (16+ahead)) % item≠0 then 5
 else 0
def JN (b:List UInt8) (a:Nat):Nat:=Zu b a 6 8 8
def vq (b:List UInt8) (a:Nat):List Nat:=Qj (QW b a)
def kb (b:List UInt8) (sz a:Nat):Nat:=if a < sz∨b.length≤a then 2 else JN b a
def Ky (b:List UInt8) (a:Nat):Bool:=decide (a = 0) || decide (b.length≤a)
def qbf (b:List UInt8) (most:Nat):List Nat→List Nat→List Nat × Option Nat
 | [],out=>(out,none)
 | x :: l,out=>if out.length = most then (out,none)
  else if Ky b x then (out,some 2)
  else if 0 < out.length∧x≤out.getLastD 0 then (out,some 13)
  else qbf b most l (out ++ [x])
def qcr (b:List UInt8) (sz most:Nat):Nat→List Nat→Nat→Nat→List Nat × Nat
 | 0,out,_,_=>(out,0)
 | n+1,out,at_,ahead=>if most≤out.length then (out,0)
  else if Ky b at_ then (out,14)
  else if at_≤ahead then (out,12)
  else if kb b sz at_≠0 then (out,kb b sz at_)
  else match qbf b most (vq b at_).tail out with
   | (out',some c)=>(out',c)
   | (out',none)=>qcr b sz most n out' ((vq b at_).headD 0) at_
structure HdP where
 compat:Nat
 incompat:Nat
 state:Nat
 file:ID
 machine:ID
 boot:ID
 seq:ID
 n:List Nat
 hn:n.length = 21
 ta:Nat
 ti:Nat
 te:Nat
def qy (k:IntKind) (l:List Nat):List D:=l.map fun x:Nat=>D.int k (x:Int)
@[simp] theorem qfp (k:IntKind) (l:List Nat):(qy k l).length = l.length:=by simp [qy]
@[simp] theorem qon (k:IntKind) (l:List Nat):(qy k l).all idFree = true:=by simp [qy,idFree]
@[simp] theorem q2R (k:IntKind) (l:List Nat):idFree.idFreeL (qy k l) = true:=by rw [kO];exact qon k l
theorem qa6 {k:IntKind} {l:List Nat} {i:Nat} (h:i < l.length):(qy k l).drop i = .int k (l[i]:Nat) :: qy k (l.drop (i+1)):=by
 unfold qy;rw [← List.map_drop,vR h];rfl
theorem qfq (k:IntKind) (a b:List Nat):qy k (a ++ b) = qy k a ++ qy k b:=by simp [qy]
instance:Enc HdP:=⟨91,fun h=>.int .u32 h.compat :: .int .u32 h.incompat :: .int .i64 h.state :: (qf h.file.l ++ (qf h.machine.l ++ (qf h.boot.l ++ (qf h.seq.l ++ (qy .u64 h.n ++ [.int .u32 h.ta,.int .u32 h.ti,.int .u64 h.te]))))),
 fun h=>by simp [h.hn],fun h=>by simp [idFree]⟩
theorem HdP.cells (h:HdP):Enc.cells h = .int .u32 h.compat :: .int .u32 h.incompat :: .int .i64 h.state :: (qf h.file.l ++ (qf h.machine.l ++ (qf h.boot.l ++ (qf h.seq.l ++ (qy .u64 h.n ++ [.int .u32 h.ta,.int .u32 h.ti,.int .u64 h.te]))))):=rfl
@[simp] theorem HdP.size:Enc.size HdP = 91:=rfl
@[simp] theorem HdP.cl (a:HdP):(Enc.cells a).length = 91:=Enc.len a
@[simp] theorem HdP.ct (a:HdP) (r:List D):(Enc.cells a ++ r).take 91 = Enc.cells a:=ZN rfl a r
@[simp] theorem HdP.ct' (a:HdP):(Enc.cells a).take 91 = Enc.cells a:=ZM rfl a
@[simp] theorem HdP.cd (a:HdP) (r:List D):(Enc.cells a ++ r).drop 91 = r:=ZO rfl a r
@[simp] theorem HdP.el (l:List HdP):(qk l).length = l.length * 91:=ZJ rfl l
@[simp] theorem HdP.ed (l:List HdP) (i:Nat):(qk l).drop (i * 91) = qk (l.drop i):=QV rfl l i
@[simp] theorem HdP.et (l:List HdP) (i:Nat):(qk l).take (i * 91) = qk (l.take i):=QU rfl l i
@[simp high] theorem HdP.ea {l:List HdP} {i:Nat} (h:i < l.length):(qk l).drop (i * 91) = Enc.cells l[i] ++ qk (l.drop (i+1)):=QD rfl h
@[simp high] theorem HdP.es (m:HdP) {l:List HdP} {j:Nat} (h:j < l.length):qC (qk l) (j * 91) (Enc.cells m) = qk (l.set j m):=Qu rfl m l h
def HdP.g (h:HdP) (i:Nat):Nat:=h.n.getD i 0
theorem HdP.d1 (h:HdP):(Enc.cells h).drop 1 = .int .u32 h.incompat :: (Enc.cells h).drop 2:=by simp [HdP.cells]
theorem HdP.d2 (h:HdP):(Enc.cells h).drop 2 = .int .i64 h.state :: (Enc.cells h).drop 3:=by simp [HdP.cells]
theorem HdP.d3 (h:HdP):((Enc.cells h).drop 3).take 16 = qf h.file.l:=by simp [HdP.cells]
theorem HdP.dn (h:HdP) {i:Nat} (hi:i < 21):(Enc.cells h).drop (67+i) = .int .u64 (h.g i:Nat) :: (Enc.cells h).drop (68+i):=by
 have hl:i < h.n.length:=by rw [h.hn];exact hi
 have key:∀ j,j≤21→(Enc.cells h).drop (67+j) = (qy .u64 h.n ++ ([.int .u32 h.ta,.int .u32 h.ti,.int .u64 h.te]:List D)).drop j:=by
  intro j hj
  have h2:∀ (k:Nat) (l r:List D) (a:Nat),l.length = a→(l ++ r).drop (a+k) = r.drop k:=by
   intro k l r a hl;rw [← kA,VH hl]
  rw [HdP.cells,show 67+j = (16+(16+(16+(16+j))))+1+1+1 by omega,List.drop_succ_cons,List.drop_succ_cons,List.drop_succ_cons,h2 _ _ _ 16 (by simp),h2 _ _ _ 16 (by simp),h2 _ _ _ 16 (by simp),h2 _ _ _ 16 (by simp)]
 rw [key i (by omega),show 68+i = 67+(i+1) by omega,key (i+1) (by omega),List.drop_append_of_le_length (by simp;omega),List.drop_append_of_le_length (by simp [h.hn];omega),qa6 hl,Jx];congr 2
 ·simp [HdP.g,hl]
 ·unfold qy;rw [List.map_drop]
def HdP.siz (h:HdP):Nat:=h.g 0
def HdP.arena (h:HdP):Nat:=h.g 1
def HdP.ents (h:HdP):Nat:=h.g 8
def HdP.arr (h:HdP):Nat:=h.g 11
def ZX (b:List UInt8) (a:Nat):Nat:=vi ((b.drop a).take 4)
theorem ql9 (b:List UInt8) (a:Nat):ZX b a < 4294967296:=by
 have h:=qbd ((b.drop a).take 4);have h8:((b.drop a).take 4).length≤4:=by simp;omega
 exact jr h (jA (qb6 (by decide) h8) (by decide))
def qbh (b:List UInt8) (a:Nat):ID:=if h:((b.drop a).take 16).length = 16 then ⟨(b.drop a).take 16,h⟩ else ID.zero
theorem qd7 {b:List UInt8} {a:Nat} (h:a+16≤b.length):(qbh b a).l = (b.drop a).take 16:=by
 have:((b.drop a).take 16).length = 16:=by simp;omega
 simp [qbh,this]
def jc (b:List UInt8):HdP where
 compat:=ZX b 8
 incompat:=ZX b 12
 state:=(b.getD 16 0).toNat
 file:=qbh b 24
 machine:=qbh b 40
 boot:=qbh b 56
 seq:=qbh b 72
 n:=(List.range 21).map fun i=>kg b (88+8 * i)
 hn:=by simp
 ta:=ZX b 256
 ti:=ZX b 260
 te:=kg b 264
theorem qtc (b:List UInt8) {i:Nat} (h:i < 21):(jc b).g i = kg b (88+8 * i):=by
 simp [jc,HdP.g,h]
theorem qce (b:List UInt8) (i:Nat):(jc b).g i < 18446744073709551616:=by
 by_cases h:i < 21
 ·rw [qtc b h];exact qe0 _ _
 ·have:(jc b).g i = 0:=by
   simp only [HdP.g,jd];rw [List.getElem?_eq_none (by rw [(jc b).hn];omega)];rfl
  omega
def HdP.endC (h:HdP):Bool:=decide (h.g 0+h.g 1 < 18446744073709551616)
def HdP.endN (h:HdP):Nat:=if h.g 0+h.g 1 < 18446744073709551616 then h.g 0+h.g 1 else 0
def qap (from_ a size till:Nat):Nat :=
 if a % 8≠0 then 3
 else if size = 0∨size % 16≠0 then 5
 else if a < from_∨a - from_ < 16∨till < a∨till - a < size then 2
 else 0
def signL:List UInt8:=[76,80,75,83,72,72,82,72]
def KY (h:HdP) (len:Nat):Nat :=
 if qb3 .u32 h.incompat 4≠0 then 7
 else if 2 < h.state then 8
 else if h.g 0 < 272∨h.g 0 % 8≠0∨h.g 1 % 8≠0 then 5
 else if h.endC = false∨len < h.endN then 2
 else if qap (h.g 0) (h.g 2) (h.g 3) h.endN≠0 then qap (h.g 0) (h.g 2) (h.g 3) h.endN
 else qap (h.g 0) (h.g 4) (h.g 5) h.endN
def j8 (b:List UInt8):Nat :=
 if b.length < 272 then 22
 else if b.take 8≠signL then 6
 else KY (jc b) b.length
end Go.Ev
namespace Go.Ev.S
open Go Go.Proofs Go.Ev
theorem qdw [MaxL] [TxtC] (s:Sl UInt8) (a:Nat) (h:a+8≤s.l.length) (hl:s.l.length < 4611686018427387904) {x:Int} (hx:x = a):call cx 177 [(.vsl s.nil (qf s.l) s.l.length),.int .i64 x,.int .i64 8] [] = some (.tup [.int .u64 (kg s.l a:Nat),.bool true],[]):=by
 subst hx;have:=qiF s a 8 (by omega) hl;rw [this]
 have e1:Xx s.l a 8 = some (kg s.l a):=by
  unfold Xx kg;simp [Yj];omega
 rw [e1];rfl
theorem qoS [MaxL] [TxtC] (s:Sl UInt8) (a:Nat) (h:a+4≤s.l.length) (hl:s.l.length < 4611686018427387904) {x:Int} (hx:x = a):call cx 177 [(.vsl s.nil (qf s.l) s.l.length),.int .i64 x,.int .i64 4] [] = some (.tup [.int .u64 (ZX s.l a:Nat),.bool true],[]):=by
 subst hx;have:=qiF s a 4 (by omega) hl;rw [this]
 have e1:Xx s.l a 4 = some (ZX s.l a):=by
  unfold Xx ZX;simp [Yj];omega
 rw [e1];rfl
def JJ (b:List UInt8) (a:Nat):D:=if QB b a = 0 then .agg [.int .i64 (YW b a:Nat),.int .i64 0,.int .u64 (Vq b a:Nat)] else .agg [.int .i64 0,.int .i64 0,.int .u64 0]
set_option maxHeartbeats 2000000 in
set_option maxRecDepth 8000 in
theorem qoe [MaxL] [TxtC] (s:Sl UInt8) (hl:s.l.length≤1000000) (a:Nat) (ha:a < 18446744073709551616):call cx 202 [(.vsl s.nil (qf s.l) s.l.length),.int .u64 a] [] = some (.tup [JJ s.l a,.int .i64 (QB s.l a)],[]):=by
 refine qA Tryz.func202 rfl ⟨rfl,rfl⟩ ?_;have hw:IntKind.u64.wrap (s.l.length:Int) = (s.l.length:Int):=by rw [qF];omega
 have ht:(a:Int).tmod 8 = ((a % 8:Nat):Int):=rfl;by_cases h1:a % 8≠0
 ·have hC:QB s.l a = 3:=by unfold QB;rw [if_pos h1]
  have zR:((a:Int).tmod 8 != 0) = true:=by rw [ht];simp only [bne_iff_ne,ne_eq];omega
  simp [Tryz.f202,JJ,hC,hw,zR]
 have zR:((a:Int).tmod 8 != 0) = false:=by rw [ht];simp only [bne_eq_false_iff_eq];omega
 by_cases h2:s.l.length < a∨s.l.length - a < 16
 ·have hC:QB s.l a = 2:=by unfold QB;rw [if_neg h1,if_pos h2]
  by_cases h3:s.l.length < a
  ·have vK:(s.l.length:Int) < (a:Int):=(by omega);simp [Tryz.f202,JJ,hC,hw,zR,vK]
  ·have vK:¬ (s.l.length:Int) < (a:Int):=(by omega);have zp:IntKind.u64.wrap ((s.l.length:Int) - (a:Int)) = (s.l.length:Int) - (a:Int):=(by rw [qF];omega);have h4:(s.l.length:Int) - (a:Int) < 16:=(by omega);simp [Tryz.f202,JJ,hC,hw,zR,vK,zp,h4]
 have vK:¬ (s.l.length:Int) < (a:Int):=by omega
 have zp:IntKind.u64.wrap ((s.l.length:Int) - (a:Int)) = (s.l.length:Int) - (a:Int):=by rw [qF];omega
 have h4:¬ (s.l.length:Int) - (a:Int) < 16:=by omega
 have la:a < s.l.length:=by omega
 have la1:a+1 < s.l.length:=by omega
 have qQ:s.nil = false:=Sl.nn la;have g8:=qdw s (a+8) (by omega) (by omega) (x:=(a:Int)+8) (by omega);have q1:(a:Int) < (s.l.length:Int):=by omega
 have q2:(a:Int)+1 < (s.l.length:Int):=by omega
 have w1:IntKind.u64.wrap ((a:Int)+1) = (a:Int)+1:=by rw [qF];omega
 have w2:IntKind.i64.wrap (a:Int) = (a:Int):=by rw [wrap_i64];omega
 have w3:IntKind.i64.wrap ((a:Int)+8) = (a:Int)+8:=by rw [wrap_i64];omega
 have o1:=jK la;have o2:=jK la1;have b1:=s.l[a].toNat_lt;have b2:=s.l[a+1].toNat_lt;have eK:(s.l.getD a 0).toNat = s.l[a].toNat:=by simp [la]
 have eF:(s.l.getD (a+1) 0).toNat = s.l[a+1].toNat:=by simp [la1]
 have n2:((a:Int)+1).toNat = a+1:=by omega
 have hS:=qe0 s.l (a+8)
 have hC:QB s.l a = if s.l[a].toNat < 1∨7 < s.l[a].toNat then 4 else if s.l[a+1].toNat≠0 then 7 else if kg s.l (a+8) < 16 then 5 else if s.l.length - a < kg s.l (a+8) then 2 else 0:=by
  unfold QB;rw [if_neg h1,if_neg h2,eK,eF]
 have hK:YW s.l a = s.l[a].toNat:=eK;obtain ⟨S,eS⟩:∃ S,kg s.l (a+8) = S:=⟨_,rfl⟩;have hSS:Vq s.l a = S:=eS;rw [eS] at hC g8 hS;generalize s.l[a] = K at *;generalize s.l[a+1] = F at *;have w4:IntKind.i64.wrap (K.toNat:Int) = (K.toNat:Int):=by rw [wrap_i64];omega
 have w5:IntKind.i64.wrap (F.toNat:Int) = (F.toNat:Int):=by rw [wrap_i64];omega
 have q3:(0:Int)≤(a:Int)+1:=by omega
 rw [qQ] at g8;have z0:(0:Nat) < 4:=by omega
 by_cases k1:K.toNat < 1
 ·rw [if_pos (.inl k1)] at hC;have k1':(K.toNat:Int) < 1:=by omega
  simp [Tryz.f202,JJ,hC,hw,zR,vK,zp,h4,qQ,q1,q2,q3,w1,w2,w3,o1,o2,n2,w4,w5,g8,k1']
 have k1':¬ (K.toNat:Int) < 1:=by omega
 by_cases k2:7 < K.toNat
 ·rw [if_pos (.inr k2)] at hC;have k2':(7:Int) < (K.toNat:Int):=by omega
  simp [Tryz.f202,JJ,hC,hw,zR,vK,zp,h4,qQ,q1,q2,q3,w1,w2,w3,o1,o2,n2,w4,w5,g8,k1',k2']
 have k2':¬ (7:Int) < (K.toNat:Int):=by omega
 rw [if_neg (by omega)] at hC;by_cases k3:F.toNat≠0
 ·rw [if_pos k3] at hC;have k3':((F.toNat:Int) != 0) = true:=by simp only [bne_iff_ne,ne_eq];omega
  simp [Tryz.f202,JJ,hC,hw,zR,vK,zp,h4,qQ,q1,q2,q3,w1,w2,w3,o1,o2,n2,w4,w5,g8,k1',k2',k3']
 rw [if_neg k3] at hC;have k3':F.toNat = 0:=by omega
 rw [k3'] at w5 o2;by_cases k4:S < 16
 ·rw [if_pos k4] at hC;have k4':(S:Int) < 16:=by omega
  simp [Tryz.f202,JJ,hC,hw,zR,vK,zp,h4,qQ,q1,q2,q3,w1,w2,w3,o1,o2,n2,w4,g8,k1',k2',k4']
 have k4':¬ (S:Int) < 16:=by omega
 rw [if_neg k4] at hC;by_cases k5:s.l.length - a < S
 ·rw [if_pos k5] at hC;have k5':(s.l.length:Int) - (a:Int) < (S:Int):=by omega
  simp [Tryz.f202,JJ,hC,hw,zR,vK,zp,h4,qQ,q1,q2,q3,w1,w2,w3,o1,o2,n2,w4,g8,k1',k2',k4',k5']
 ·rw [if_neg k5] at hC;have k5':¬ (s.l.length:Int) - (a:Int) < (S:Int):=by omega
  simp [Tryz.f202,JJ,hC,hw,zR,vK,zp,h4,qQ,q1,q2,q3,w1,w2,w3,o1,o2,n2,w4,g8,k1',k2',k4',k5',hK,hSS]
def ZR (b:List UInt8) (a kind ahead item:Nat):D:=if Zu b a kind ahead item = 0 then .vsl false (qf (QW b a)) (QW b a).length else .vsl true [] 0
set_option maxHeartbeats 2000000 in
set_option maxRecDepth 8000 in
theorem qu8 [MaxL] [TxtC] (s:Sl UInt8) (hl:s.l.length≤1000000) (a:Nat) (ha:a < 18446744073709551616) (kind ahead item:Nat) (hk:kind≤100) (hah:ahead≤100) (hit:1≤item∧item≤100) :
  call cx 198 [(.vsl s.nil (qf s.l) s.l.length),.int .u64 a,.int .i64 kind,.int .i64 ahead,.int .i64 item] [] = some (.tup [ZR s.l a kind ahead item,.int .i64 (Zu s.l a kind ahead item)],[]):=by
 have hr:=qoe s hl a ha;refine qA Tryz.func198 rfl ⟨rfl,rfl⟩ ?_;have zB:IntKind.i64.wrap (16+(ahead:Int)) = 16+(ahead:Int):=by rw [wrap_i64];omega
 have zp:IntKind.u64.wrap (16+(ahead:Int)) = 16+(ahead:Int):=by rw [qF];omega
 by_cases h0:QB s.l a≠0
 ·have hC:Zu s.l a kind ahead item = QB s.l a:=by unfold Zu;rw [if_pos h0]
  have hB:ZR s.l a kind ahead item = .vsl true [] 0:=by unfold ZR;rw [hC,if_neg h0]
  have hF:JJ s.l a = .agg [.int .i64 0,.int .i64 0,.int .u64 0]:=by unfold JJ;rw [if_neg h0]
  rw [hF] at hr;have j9:(((QB s.l a:Nat):Int) != 0) = true:=by simp only [bne_iff_ne,ne_eq];omega
  obtain ⟨C,hCC⟩:∃ C,QB s.l a = C:=⟨_,rfl⟩;rw [hCC] at hr hC j9;rw [hB,hC];simp [Tryz.f198,hr,zB,zp,j9]
 have j9:QB s.l a = 0:=by omega
 obtain ⟨f1,f2,f3,f4,f5,f6⟩:=qfF j9;have hF:JJ s.l a = .agg [.int .i64 (YW s.l a:Nat),.int .i64 0,.int .u64 (Vq s.l a:Nat)]:=by unfold JJ;rw [if_pos j9]
 rw [hF,j9] at hr;obtain ⟨K,hK⟩:∃ K,YW s.l a = K:=⟨_,rfl⟩;obtain ⟨S,hS⟩:∃ S,Vq s.l a = S:=⟨_,rfl⟩;rw [hK,hS] at hr;rw [hK] at f3 f4;rw [hS] at f5 f6;by_cases h1:K = kind
 rotate_left
 ·have hC:Zu s.l a kind ahead item = 4:=by unfold Zu;rw [if_neg h0,hK,if_pos h1]
  have hB:ZR s.l a kind ahead item = .vsl true [] 0:=by unfold ZR;rw [hC];rfl
  have zR:((K:Int) != (kind:Int)) = true:=by simp only [bne_iff_ne,ne_eq];omega
  rw [hB,hC];simp [Tryz.f198,hr,zB,zp,zR]
 subst h1;by_cases h2:S≤16+ahead
 ·have hC:Zu s.l a K ahead item = 5:=by unfold Zu;rw [if_neg h0,hK,if_neg (by simp),hS,if_pos (.inl h2)]
  have hB:ZR s.l a K ahead item = .vsl true [] 0:=by unfold ZR;rw [hC];rfl
  have vn:(S:Int)≤16+(ahead:Int):=by omega
  rw [hB,hC];simp [Tryz.f198,hr,zB,zp,vn]
 have vn:¬ (S:Int)≤16+(ahead:Int):=by omega
 obtain ⟨d,hd⟩:∃ d:Nat,S - (16+ahead) = d:=⟨_,rfl⟩;have V5:IntKind.u64.wrap ((S:Int) - (16+(ahead:Int))) = (d:Int):=by rw [qF];all_goals omega
 have KI:IntKind.u64.wrap (item:Int) = (item:Int):=by rw [qF];omega
 have hz:¬ item = 0:=by omega
 have ht:(d:Int).tmod (item:Int) = ((d % item:Nat):Int):=rfl;by_cases h3:d % item≠0
 ·have hC:Zu s.l a K ahead item = 5:=by unfold Zu;rw [if_neg h0,hK,if_neg (by simp),hS,hd,if_pos (.inr h3)]
  have hB:ZR s.l a K ahead item = .vsl true [] 0:=by unfold ZR;rw [hC];rfl
  have vK:((d:Int).tmod (item:Int) != 0) = true:=by rw [ht];simp only [bne_iff_ne,ne_eq];omega
  rw [hB,hC];simp [Tryz.f198,hr,zB,zp,vn,V5,KI,hz,vK]
 ·have hC:Zu s.l a K ahead item = 0:=by unfold Zu;rw [if_neg h0,hK,if_neg (by simp),hS,hd,if_neg (by omega)]
  have hB:ZR s.l a K ahead item = .vsl false (qf (QW s.l a)) (QW s.l a).length:=by unfold ZR;rw [hC];rfl
  have vK:((d:Int).tmod (item:Int) != 0) = false:=by rw [ht];simp only [bne_eq_false_iff_eq];omega
  have jG:=qkM j9;have qQ:s.nil = false:=Sl.nn (i:=a) (by omega);have hw5:IntKind.u64.wrap ((a:Int)+16) = (a:Int)+16:=by rw [qF];omega
  have hw6:IntKind.u64.wrap ((a:Int)+(S:Int)) = (a:Int)+(S:Int):=by rw [qF];omega
  have q1:(0:Int)≤(a:Int)+(S:Int)∧(a:Int)+(S:Int)≤(s.l.length:Int)∧(0:Int)≤(a:Int)+16∧(a:Int)+16≤(a:Int)+(S:Int):=by omega
  have n1:((a:Int)+16).toNat = a+16:=by omega
  have n2:((a:Int)+(S:Int)).toNat = a+S:=by omega
  have n3:a+S - (a+16) = S - 16:=by omega
  have zY:QW s.l a = (s.l.drop (a+16)).take (S - 16):=by unfold QW;rw [hS]
  rw [hB,hC,jG,hS];rw [qQ] at hr;simp [Tryz.f198,hr,zB,zp,vn,V5,KI,hz,vK,qQ,hw5,hw6,q1,n1,n2,n3,zY];simp [qf,List.map_take,List.map_drop]
end Go.Ev.S
namespace Go.Ev
open Go Go.Proofs
def zg (l:List Nat):List D:=l.map fun x=>.int .u64 (x:Nat)
@[simp] theorem Yw (l:List Nat):(zg l).length = l.length:=by simp [zg]
theorem qiq (l:List Nat) (x:Nat):zg (l ++ [x]) = zg l ++ [.int .u64 (x:Nat)]:=by simp [zg]
@[simp] theorem qir:zg [] = []:=rfl
theorem qop (x:Nat) (l:List Nat):zg (x :: l) = .int .u64 (x:Nat) :: zg l:=rfl
@[simp] theorem qkW (s:List Nat):(zg s).all idFree = true:=by simp [zg,idFree]
@[simp] theorem qwp (n:Nat) (s:List Nat):(zg s).all (closed n) = true:=by simp [zg,closed]
@[simp] theorem qkU (s:List Nat):(zg s).all vFree = true:=by simp [zg,vFree]
@[simp] theorem qsJ (s:List Nat):idFree.idFreeL (zg s) = true:=by rw [kO];exact qkW s
@[simp] theorem qw3 (s:List Nat):vFree.vFreeL (zg s) = true:=by exact (qcI _).2 (List.all_eq_true.1 (qkU s))
@[simp] theorem q5v (n:Nat) (s:List Nat):closed.closedL n (zg s) = true:=Kl n _ (qsJ s)
@[simp] theorem qxj {s:List Nat} {n:Nat} (h:s.length≤n):(zg s).take n = zg s:=qP (by simpa using h)
@[simp] theorem qoo (s:List Nat):(∀ x,x∈zg s→idFree x = true) = True:=eq_true (List.all_eq_true.1 (qkW s))
@[simp] theorem q2T (s:List Nat) (n:Nat):(∀ x,x∈zg s→closed n x = true) = True:=eq_true (List.all_eq_true.1 (qwp n s))
@[simp] theorem q2S (s:List Nat):(∀ x,x∈zg s→vFree x = true) = True:=eq_true (List.all_eq_true.1 (qkU s))
def qlh (d:D) (H:qd) (l:List D):Prop:=(d = .vsl true [] 0∧l = []∧H = [])∨(d = .osl 0 l.length 0 l.length 1∧H = [some l]∧l≠[])
theorem qof {l:List UInt8} {k:Nat} (h:k < l.length / 8):(Qj l).take (k+1) = (Qj l).take k ++ [kg l (8 * k)]:=by
 rw [List.take_add_one,qog h];rfl
end Go.Ev
namespace Go.Ev.S
open Go Go.Proofs Go.Ev
def qaX (l:List UInt8):D:=.vsl (decide (l.length = 0)) (zg (Qj l)) (Qj l).length
set_option maxHeartbeats 1000000 in
theorem qu0 [MaxL] [TxtC] (s:Sl UInt8) (hl:s.l.length≤1000000) (h8:s.l.length % 8 = 0):call cx 199 [(.vsl s.nil (qf s.l) s.l.length)] [] = some (qaX s.l,[]):=by
 refine qA Tryz.func199 rfl ⟨rfl,rfl⟩ ?_;simp [Tryz.f199,-qaz];refine Run.loopThen (fun (k:Nat) e H=>8 * k≤s.l.length∧(∃ d,qg e 3 = some d∧qlh d H (zg ((Qj s.l).take k)))∧qg e 0 = some (.vsl s.nil (qf s.l) s.l.length)∧qg e 4 = some (.int .i64 (8 * (k:Int)))) (fun k=>s.l.length - 8 * k) 0 (by simp [qlh,zg]) ?_;rintro k e H ⟨hk,⟨d,k3,hbuf⟩,k0,k4⟩;by_cases qi:8 * k < s.l.length
 ·have qq:8 * (k:Int) < (s.l.length:Int):=by omega
  have hw:IntKind.i64.wrap (8 * (k:Int)+8) = 8 * ((k+1:Nat):Int):=by rw [wrap_i64] <;> omega
  have hg:=qdw s (8 * k) (by omega) (by omega) (x:=8 * (k:Int)) (by omega);have VT:=qiq ((Qj s.l).take k) (kg s.l (8 * k));rw [← qof (by omega)] at VT;have hL:(zg ((Qj s.l).take k)).length≤1000000:=by simp;omega
  have qQ:s.nil = false:=Sl.nn (i:=8 * k) qi;rw [qQ] at hg k0;have hI:=qoo ((Qj s.l).take k);generalize zg ((Qj s.l).take k) = l at *;generalize kg s.l (8 * k) = c at *;have Zl:(l.length+1) * 8≤140737488355328:=by omega
  have hmx2:l.length+1≤140737488355328:=by omega
  rcases hbuf with ⟨rfl,rfl,rfl⟩ | ⟨rfl,rfl,qH⟩
  ·simp [k0,k3,k4,qq,hw,hg,qw];exact ⟨k+1,by omega,by omega,.inr (by simp [VT]),qQ,by omega⟩
  ·simp [k0,k3,k4,qq,hw,hg,qw,Zl,hmx2,hI];exact ⟨k+1,by omega,by omega,.inr (by simp [VT]),qQ,by omega⟩
 ·have qq:¬ 8 * (k:Int) < (s.l.length:Int):=by omega
  have hN:(Qj s.l).take k = Qj s.l:=qP (by simp;omega);rw [hN] at hbuf;rcases hbuf with ⟨rfl,qQ,rfl⟩ | ⟨rfl,rfl,qH⟩
  ·have hz:s.l.length = 0:=by
    have:=congrArg List.length qQ;simp at this;omega
   have hz':s.l = []:=List.length_eq_zero_iff.1 hz;have hD:qaX s.l = .vsl true [] 0:=(by simp [qaX,hz',Qj]);rw [hD];simp [k0,k3,k4,qq]
  ·have hz:¬ s.l = []:=fun h=>qH (by rw [h];rfl);simp [k0,k3,k4,qq,qaX,hz]
def XX (b:List UInt8) (a:Nat):D:=if JN b a = 0 then .agg [.int .u64 ((vq b a).headD 0:Nat),.vsl false (zg (vq b a).tail) (vq b a).tail.length] else .agg [.int .u64 0,.vsl true [] 0]
set_option maxHeartbeats 1000000 in
theorem qno [MaxL] [TxtC] (s:Sl UInt8) (hl:s.l.length≤1000000) (a:Nat) (ha:a < 18446744073709551616):call cx 183 [(.vsl s.nil (qf s.l) s.l.length),.int .u64 a] [] = some (.tup [XX s.l a,.int .i64 (JN s.l a)],[]):=by
 have hb:call cx 198 [(.vsl s.nil (qf s.l) s.l.length),.int .u64 a,.int .i64 6,.int .i64 8,.int .i64 8] [] = some (.tup [ZR s.l a 6 8 8,.int .i64 (Zu s.l a 6 8 8)],[]):=qu8 s hl a ha 6 8 8 (by omega) (by omega) (by omega);refine qA Tryz.func183 rfl ⟨rfl,rfl⟩ ?_;have hB:Zu s.l a 6 8 8 = JN s.l a:=rfl;by_cases h0:JN s.l a≠0
 ·have j9:(((JN s.l a:Nat):Int) != 0) = true:=by simp only [bne_iff_ne,ne_eq];omega
  have e1:ZR s.l a 6 8 8 = .vsl true [] 0:=by unfold ZR;rw [hB,if_neg h0]
  have e2:XX s.l a = .agg [.int .u64 0,.vsl true [] 0]:=by unfold XX;rw [if_neg h0]
  rw [e1,hB] at hb;rw [e2];obtain ⟨C,hC⟩:∃ C,JN s.l a = C:=⟨_,rfl⟩;rw [hC] at hb j9 ⊢;simp [Tryz.f183,hb,j9]
 have j9:JN s.l a = 0:=by omega
 have e1:ZR s.l a 6 8 8 = .vsl false (qf (QW s.l a)) (QW s.l a).length:=by unfold ZR;rw [hB,if_pos j9]
 have e2:XX s.l a = .agg [.int .u64 ((vq s.l a).headD 0:Nat),.vsl false (zg (vq s.l a).tail) (vq s.l a).tail.length]:=by unfold XX;rw [if_pos j9]
 have f0:QB s.l a = 0:=by
  unfold JN Zu at j9;split at j9
  ·omega
  ·omega
 have zx:¬ (Vq s.l a≤16+8∨(Vq s.l a - (16+8)) % 8≠0):=by
  unfold JN Zu at j9;rw [if_neg (by omega)] at j9;split at j9
  ·omega
  split at j9
  ·omega
  ·assumption
 have jG:=qkM f0;have hfr:=qfF f0;have jH:=qu0 (Sl.mk false (QW s.l a) (by simp)) (by simp only;omega) (by simp only;omega);simp only at jH;have hN:(Qj (QW s.l a)).length≠0:=by rw [qil];omega
 have hD:qaX (QW s.l a) = .vsl false (zg (vq s.l a)) (vq s.l a).length:=by
  unfold qaX;rw [decide_eq_false (by omega)];rfl
 rw [hD] at jH;have hN':(vq s.l a).length≠0:=hN;rw [e2,j9];rw [e1,hB,j9] at hb;generalize vq s.l a = l at *;cases l with
 | nil=>simp at hN'
 | cons x l =>
  have KP:(1:Int)≤(l.length:Int)+1:=by omega
  simp [Tryz.f183,hb,jH,qop,KP]
end Go.Ev.S
namespace Go.Proofs
open Go.Shelf
def Tryz.laysM316_ren:Go.Shelf.Ren:=⟨fun | 316=>189 | n=>n,fun | 9=>9 | 3=>3 | 4=>4 | 37=>26 | 0=>0 | 127=>216 | 5=>5 | n=>n,fun | n=>n⟩
theorem Tryz.laysM316:Go.Proofs.LaysM.n316 Tryz.prog Tryz.laysM316_ren:={
 mixed:=by kernel_rfl
 f316:=Tryz.func189.trans (congrArg some (by kernel_rfl))
 t0:=Tryz.underlying0
 a0:=Tryz.isAgg0
 z0:=Tryz.sizeOf0
 v0:=Tryz.zeroValue0
 t3:=Tryz.underlying3
 a3:=Tryz.isAgg3
 z3:=Tryz.sizeOf3
 v3:=Tryz.zeroValue3
 t4:=Tryz.underlying4
 a4:=Tryz.isAgg4
 z4:=Tryz.sizeOf4
 v4:=Tryz.zeroValue4
 t9:=Tryz.underlying9
 a9:=Tryz.isAgg9
 z9:=Tryz.sizeOf9
 v9:=Tryz.zeroValue9
 t37:=Tryz.underlying26
 a37:=Tryz.isAgg26
 z37:=Tryz.sizeOf26
 v37:=Tryz.zeroValue26
 t127:=Tryz.underlying216
 a127:=Tryz.isAgg216
 z127:=Tryz.sizeOf216
 v127:=Tryz.zeroValue216
 t5:=Tryz.underlying5
 a5:=Tryz.isAgg5
 z5:=Tryz.sizeOf5
 v5:=Tryz.zeroValue5
 i0:=by kernel_rfl
 i3:=by kernel_rfl
 i4:=by kernel_rfl
 i5:=by kernel_rfl
 i9:=by kernel_rfl
 i37:=by kernel_rfl
 i127:=by kernel_rfl }
def Tryz.lays219_ren:Go.Shelf.Ren:=⟨fun | 219=>147 | 217=>105 | 225=>186 | 224=>187 | 267=>188 | 266=>148 | 314=>200 | n=>n,fun | 9=>9 | 3=>3 | 4=>4 | 5=>5 | 46=>122 | 146=>212 | 51=>43 | n=>n,fun | 1=>1 | n=>n⟩
theorem Tryz.lays219:Go.Proofs.Lays.n219 Tryz.prog Tryz.lays219_ren:={
 mixed:=by kernel_rfl
 f217:=Tryz.func105.trans (congrArg some (by kernel_rfl))
 f219:=Tryz.func147.trans (congrArg some (by kernel_rfl))
 f224:=Tryz.func187.trans (congrArg some (by kernel_rfl))
 f225:=Tryz.func186.trans (congrArg some (by kernel_rfl))
 f266:=Tryz.func148.trans (congrArg some (by kernel_rfl))
 f267:=Tryz.func188.trans (congrArg some (by kernel_rfl))
 f314:=Tryz.func200.trans (congrArg some (by kernel_rfl))
 t3:=Tryz.underlying3
 a3:=Tryz.isAgg3
 z3:=Tryz.sizeOf3
 v3:=Tryz.zeroValue3
 t4:=Tryz.underlying4
 a4:=Tryz.isAgg4
 z4:=Tryz.sizeOf4
 v4:=Tryz.zeroValue4
 t5:=Tryz.underlying5
 a5:=Tryz.isAgg5
 z5:=Tryz.sizeOf5
 v5:=Tryz.zeroValue5
 t9:=Tryz.underlying9
 a9:=Tryz.isAgg9
 z9:=Tryz.sizeOf9
 v9:=Tryz.zeroValue9
 t46:=Tryz.underlying122
 a46:=Tryz.isAgg122
 z46:=Tryz.sizeOf122
 v46:=Tryz.zeroValue122
 t51:=Tryz.underlying43
 a51:=Tryz.isAgg43
 z51:=Tryz.sizeOf43
 v51:=Tryz.zeroValue43
 t146:=Tryz.underlying212
 a146:=Tryz.isAgg212
 z146:=Tryz.sizeOf212
 v146:=Tryz.zeroValue212
 g1:=by kernel_rfl }
def Tryz.lays105_ren:Go.Shelf.Ren:=⟨fun | 105=>57 | 212=>87 | 99=>88 | 165=>89 | 166=>90 | 170=>91 | 169=>92 | 263=>124 | 264=>125 | 206=>101 | 240=>126 | 241=>127 | 276=>167 | 277=>168 | n=>n,fun | 9=>9 | 3=>3 | 4=>4 | 20=>20 | 0=>0 | 46=>122 | 109=>170 | 5=>5 | 72=>174 | 76=>175 | 51=>43 | 146=>212 | 53=>25 | 148=>214 | 70=>172 | 37=>26 | 75=>142 | 127=>216 | 164=>251 | 80=>177 | n=>n,fun | n=>n⟩
theorem Tryz.lays105:Go.Proofs.Lays.n105 Tryz.prog Tryz.lays105_ren:={
 mixed:=by kernel_rfl
 f99:=Tryz.func88.trans (congrArg some (by kernel_rfl))
 f105:=Tryz.func57.trans (congrArg some (by kernel_rfl))
 f165:=Tryz.func89.trans (congrArg some (by kernel_rfl))
 f166:=Tryz.func90.trans (congrArg some (by kernel_rfl))
 f169:=Tryz.func92.trans (congrArg some (by kernel_rfl))
 f170:=Tryz.func91.trans (congrArg some (by kernel_rfl))
 f206:=Tryz.func101.trans (congrArg some (by kernel_rfl))
 f212:=Tryz.func87.trans (congrArg some (by kernel_rfl))
 f240:=Tryz.func126.trans (congrArg some (by kernel_rfl))
 f241:=Tryz.func127.trans (congrArg some (by kernel_rfl))
 f263:=Tryz.func124.trans (congrArg some (by kernel_rfl))
 f264:=Tryz.func125.trans (congrArg some (by kernel_rfl))
 f276:=Tryz.func167.trans (congrArg some (by kernel_rfl))
 f277:=Tryz.func168.trans (congrArg some (by kernel_rfl))
 t0:=Tryz.underlying0
 a0:=Tryz.isAgg0
 z0:=Tryz.sizeOf0
 v0:=Tryz.zeroValue0
 t3:=Tryz.underlying3
 a3:=Tryz.isAgg3
 z3:=Tryz.sizeOf3
 v3:=Tryz.zeroValue3
 t4:=Tryz.underlying4
 a4:=Tryz.isAgg4
 z4:=Tryz.sizeOf4
 v4:=Tryz.zeroValue4
 t5:=Tryz.underlying5
 a5:=Tryz.isAgg5
 z5:=Tryz.sizeOf5
 v5:=Tryz.zeroValue5
 t9:=Tryz.underlying9
 a9:=Tryz.isAgg9
 z9:=Tryz.sizeOf9
 v9:=Tryz.zeroValue9
 t20:=Tryz.underlying20
 a20:=Tryz.isAgg20
 z20:=Tryz.sizeOf20
 v20:=Tryz.zeroValue20
 t37:=Tryz.underlying26
 a37:=Tryz.isAgg26
 z37:=Tryz.sizeOf26
 v37:=Tryz.zeroValue26
 t46:=Tryz.underlying122
 a46:=Tryz.isAgg122
 z46:=Tryz.sizeOf122
 v46:=Tryz.zeroValue122
 t51:=Tryz.underlying43
 a51:=Tryz.isAgg43
 z51:=Tryz.sizeOf43
 v51:=Tryz.zeroValue43
 t53:=Tryz.underlying25
 a53:=Tryz.isAgg25
 z53:=Tryz.sizeOf25
 v53:=Tryz.zeroValue25
 t70:=Tryz.underlying172
 a70:=Tryz.isAgg172
 z70:=Tryz.sizeOf172
 v70:=Tryz.zeroValue172
 t72:=Tryz.underlying174
 a72:=Tryz.isAgg174
 z72:=Tryz.sizeOf174
 v72:=Tryz.zeroValue174
 t75:=Tryz.underlying142
 a75:=Tryz.isAgg142
 z75:=Tryz.sizeOf142
 v75:=Tryz.zeroValue142
 t76:=Tryz.underlying175
 a76:=Tryz.isAgg175
 z76:=Tryz.sizeOf175
 v76:=Tryz.zeroValue175
 t109:=Tryz.underlying170
 a109:=Tryz.isAgg170
 z109:=Tryz.sizeOf170
 v109:=Tryz.zeroValue170
 t127:=Tryz.underlying216
 a127:=Tryz.isAgg216
 z127:=Tryz.sizeOf216
 v127:=Tryz.zeroValue216
 t146:=Tryz.underlying212
 a146:=Tryz.isAgg212
 z146:=Tryz.sizeOf212
 v146:=Tryz.zeroValue212
 t148:=Tryz.underlying214
 a148:=Tryz.isAgg214
 z148:=Tryz.sizeOf214
 v148:=Tryz.zeroValue214
 t164:=Tryz.underlying251
 a164:=Tryz.isAgg251
 z164:=Tryz.sizeOf251
 v164:=Tryz.zeroValue251 }
theorem Tryz.Builder_Extra_105:Builder.Extra Tryz.prog Tryz.lays105_ren:={
 sizeBuilder:=by kernel_rfl
 liesBuilder:=by kernel_rfl
 t5:=Tryz.underlying5
 a5:=Tryz.isAgg5
 z5:=Tryz.sizeOf5
 v5:=Tryz.zeroValue5
 infoByte:=by kernel_rfl
 cellsByte:=by kernel_rfl
 sizeByte:=by kernel_rfl
 neB5:=by decide }
def Tryz.laysN54_ren:Go.Shelf.Ren:=⟨fun | 54=>60 | 64=>94 | 65=>93 | 78=>137 | 79=>138 | 80=>128 | 81=>129 | 82=>130 | 83=>131 | 84=>132 | 85=>133 | 61=>134 | 86=>135 | 87=>136 | 93=>169 | 89=>170 | 90=>171 | 94=>172 | 95=>173 | 69=>174 | 97=>195 | n=>n,fun | 25=>37 | 26=>9 | 3=>3 | 51=>122 | 0=>0 | 67=>43 | 69=>25 | 4=>4 | 61=>219 | 60=>218 | 44=>223 | 5=>5 | 9=>9 | 75=>253 | 79=>256 | 83=>273 | 84=>72 | n=>n,fun n=>n⟩
set_option maxRecDepth 100000 in
theorem Tryz.laysN54:SlLaysN.n54 Tryz.prog Tryz.laysN54_ren:={
 mixed:=by kernel_rfl
 f54 := ⟨"slices.Sort[[]string,string]", by decide, Tryz.func60.trans (congrArg some (by kernel_rfl))⟩
 f61 := ⟨"cmp.Less[string]", by decide, Tryz.func134.trans (congrArg some (by kernel_rfl))⟩
 f64:=Tryz.func94.trans (congrArg some (by kernel_rfl))
 f65 := ⟨"slices.pdqsortOrdered[string]", by decide, Tryz.func93.trans (congrArg some (by kernel_rfl))⟩
 f69 := ⟨"cmp.isNaN[string]", by decide, Tryz.func174.trans (congrArg some (by kernel_rfl))⟩
 f78:=Tryz.func137.trans (congrArg some (by kernel_rfl))
 f79:=Tryz.func138.trans (congrArg some (by kernel_rfl))
 f80 := ⟨"slices.insertionSortOrdered[string]", by decide, Tryz.func128.trans (congrArg some (by kernel_rfl))⟩
 f81 := ⟨"slices.heapSortOrdered[string]", by decide, Tryz.func129.trans (congrArg some (by kernel_rfl))⟩
 f82 := ⟨"slices.breakPatternsOrdered[string]", by decide, Tryz.func130.trans (congrArg some (by kernel_rfl))⟩
 f83 := ⟨"slices.choosePivotOrdered[string]", by decide, Tryz.func131.trans (congrArg some (by kernel_rfl))⟩
 f84 := ⟨"slices.reverseRangeOrdered[string]", by decide, Tryz.func132.trans (congrArg some (by kernel_rfl))⟩
 f85 := ⟨"slices.partialInsertionSortOrdered[string]", by decide, Tryz.func133.trans (congrArg some (by kernel_rfl))⟩
 f86 := ⟨"slices.partitionEqualOrdered[string]", by decide, Tryz.func135.trans (congrArg some (by kernel_rfl))⟩
 f87 := ⟨"slices.partitionOrdered[string]", by decide, Tryz.func136.trans (congrArg some (by kernel_rfl))⟩
 f89:=Tryz.func170.trans (congrArg some (by kernel_rfl))
 f90:=Tryz.func171.trans (congrArg some (by kernel_rfl))
 f93 := ⟨"slices.siftDownOrdered[string]", by decide, Tryz.func169.trans (congrArg some (by kernel_rfl))⟩
 f94 := ⟨"slices.medianAdjacentOrdered[string]", by decide, Tryz.func172.trans (congrArg some (by kernel_rfl))⟩
 f95 := ⟨"slices.medianOrdered[string]", by decide, Tryz.func173.trans (congrArg some (by kernel_rfl))⟩
 f97 := ⟨"slices.order2Ordered[string]", by decide, Tryz.func195.trans (congrArg some (by kernel_rfl))⟩
 t0:=Tryz.underlying0
 a0:=Tryz.isAgg0
 z0:=Tryz.sizeOf0
 v0:=Tryz.zeroValue0
 t3:=Tryz.underlying3
 a3:=Tryz.isAgg3
 z3:=Tryz.sizeOf3
 v3:=Tryz.zeroValue3
 t4:=Tryz.underlying4
 a4:=Tryz.isAgg4
 z4:=Tryz.sizeOf4
 v4:=Tryz.zeroValue4
 t5:=Tryz.underlying5
 a5:=Tryz.isAgg5
 z5:=Tryz.sizeOf5
 v5:=Tryz.zeroValue5
 t9:=Tryz.underlying9
 a9:=Tryz.isAgg9
 z9:=Tryz.sizeOf9
 v9:=Tryz.zeroValue9
 t25:=Tryz.underlying37
 a25:=Tryz.isAgg37
 z25:=Tryz.sizeOf37
 v25:=Tryz.zeroValue37
 t26:=Tryz.underlying9
 a26:=Tryz.isAgg9
 z26:=Tryz.sizeOf9
 v26:=Tryz.zeroValue9
 t44:=Tryz.underlying223
 a44:=Tryz.isAgg223
 z44:=Tryz.sizeOf223
 v44:=Tryz.zeroValue223
 t51:=Tryz.underlying122
 a51:=Tryz.isAgg122
 z51:=Tryz.sizeOf122
 v51:=Tryz.zeroValue122
 t60:=Tryz.underlying218
 a60:=Tryz.isAgg218
 z60:=Tryz.sizeOf218
 v60:=Tryz.zeroValue218
 t61:=Tryz.underlying219
 a61:=Tryz.isAgg219
 z61:=Tryz.sizeOf219
 v61:=Tryz.zeroValue219
 t67:=Tryz.underlying43
 a67:=Tryz.isAgg43
 z67:=Tryz.sizeOf43
 v67:=Tryz.zeroValue43
 t69:=Tryz.underlying25
 a69:=Tryz.isAgg25
 z69:=Tryz.sizeOf25
 v69:=Tryz.zeroValue25
 t75:=Tryz.underlying253
 a75:=Tryz.isAgg253
 z75:=Tryz.sizeOf253
 v75:=Tryz.zeroValue253
 t79:=Tryz.underlying256
 a79:=Tryz.isAgg256
 z79:=Tryz.sizeOf256
 v79:=Tryz.zeroValue256
 t83:=Tryz.underlying273
 a83:=Tryz.isAgg273
 z83:=Tryz.sizeOf273
 v83:=Tryz.zeroValue273
 t84:=Tryz.underlying72
 a84:=Tryz.isAgg72
 z84:=Tryz.sizeOf72
 v84:=Tryz.zeroValue72 }
end Go.Proofs
namespace Go.Ev.S
open Go Go.Proofs Go.Ev
theorem qoa [MaxL] [TxtC]:Xu cx 0 40 = true:=by kernel_rfl
theorem qnW [MaxL] [TxtC]:Xu cx 40 40 = true:=by kernel_rfl
theorem qnV [MaxL] [TxtC]:Xu cx 80 40 = true:=by kernel_rfl
theorem qnZ [MaxL] [TxtC]:Xu cx 120 40 = true:=by kernel_rfl
theorem qnY [MaxL] [TxtC]:Xu cx 160 40 = true:=by kernel_rfl
theorem qnX [MaxL] [TxtC]:Xu cx 200 38 = true:=by kernel_rfl
theorem qj6:Tryz.prog.funcs.size = 238:=by kernel_rfl
theorem qkV [MaxL] [TxtC] (f:Nat) (h:f < 238):qbW cx f = true:=by
 rcases Yg f 40 with h0 | h0
 ·exact qa3 qoa (by omega) (by omega)
 rcases Yg f 80 with h1 | h1
 ·exact qa3 qnW (by omega) (by omega)
 rcases Yg f 120 with h2 | h2
 ·exact qa3 qnV (by omega) (by omega)
 rcases Yg f 160 with h3 | h3
 ·exact qa3 qnZ (by omega) (by omega)
 rcases Yg f 200 with h4 | h4
 ·exact qa3 qnY (by omega) (by omega)
 exact qa3 qnX (by omega) (by omega)
set_option maxHeartbeats 4000000 in
set_option maxRecDepth 100000 in
theorem qch [MaxL] [TxtC] (hT:qgv):Good cx where
 mixed:=by kernel_rfl
 okc f fn c hf hc hb:=(qid (qkV f (by rw [← qj6];exact (Array.getElem?_eq_some_iff.1 hf).1)) hf).2 c hc hb
 ng f fn hf:=(qid (qkV f (by rw [← qj6];exact (Array.getElem?_eq_some_iff.1 hf).1)) hf).1
 ext f fn args d hf hn h ok w ι H vs hs hv:=by
  by_cases h148:f = 148
  ·subst h148;rw [qjL] at h;have hff:=Tryz.func148;rw [show cx.P.funcs[148]? = Tryz.prog.funcs[148]? from rfl,hff] at hf;injection hf with hf;subst hf;exact qsE (P:=cx.P) hff rfl (by kernel_rfl) (by kernel_rfl) (by kernel_rfl) h hv
  by_cases h146:f = 146
  ·subst h146;rw [qjM] at h;have hff:=Tryz.func146;rw [show cx.P.funcs[146]? = Tryz.prog.funcs[146]? from rfl,hff] at hf;injection hf with hf;subst hf;exact qvp (P:=cx.P) hff rfl (by kernel_rfl) (by kernel_rfl) (by kernel_rfl) h hv
  ·have:cx.ext f args = none:=by
    show qfM f args = none;unfold qfM;split
    ·exact absurd rfl h148
    ·exact absurd rfl h146
    ·rfl
   rw [this] at h;cases h
 con f args H r H' h ok w ι vs hs hv:=by
  by_cases h147:f = 147
  ·subst h147;rw [qk2] at h;exact quO (X:=cx) (m:=MaxL.m) Tryz.lays219 rfl h hs hv
  by_cases h189:f = 189
  ·subst h189;rw [qk1] at h;exact quP (X:=cx) Tryz.laysM316 h hs hv
  by_cases h57:f = 57
  ·subst h57;rw [qk0] at h;exact quN (X:=cx) Tryz.lays105 Tryz.Builder_Extra_105 h hs hv
  by_cases h180:f = 180
  ·subst h180;rw [qvo] at h;exact hT (f:=180) h hs hv
  by_cases h60:f = 60
  ·subst h60;rw [qkz] at h;exact quM (X:=cx) Tryz.laysN54 (Go.Proofs.enters_of rfl rfl rfl) h hs hv
  ·have:cx.con f args H = none:=by
    show qgc f args H = none;unfold qgc;split
    ·exact absurd rfl h147
    ·exact absurd rfl h189
    ·exact absurd rfl h57
    ·exact absurd rfl h180
    ·exact absurd rfl h60
    ·rfl
   rw [this] at h;cases h
end Go.Ev.S
namespace Go.Ev.S
open Go Go.Proofs Go.Ev Go.RowKit
theorem qvw (p:Addr) (w:World):CallsD Tryz.prog 197 #[.pointer (some p)] .returning w fun e u' w'=>e = .returned (.tuple #[])∧u' = .returning∧w' = w:=by
 refine callsD_of_wpS Tryz.func197 rfl fun c₀ cs hu=>?_;apply wpS_seq;apply wpS_region;simp [wpOpsS,go_sem,recoverD,hu,Tryz.ntmps197,Exit.thenS];apply wpS_seq;apply wpS_region;simp [wpOpsS,go_sem,Exit.thenS];refine wpS_cond (t:=false) (by simp [Act.eval,Array.replicate]) ?_;simp only [kB,if_false];refine wpS_of_wp (wp_skip ?_);cases c₀
 simp_all [bodyPostS,results,Tryz.results197]
theorem qm3 (v:Value) (w:World):(Instr.typeAssert (.iface 277 v) 20 277 true).run Tryz.prog w = .ok (.tuple #[v,.bool true]) w:=by
 simp [Instr.typeAssert,go_sem]
set_option maxRecDepth 4000 in
theorem qvv (p:Addr) (x:Int) (c:Int) (older:List PanicEntry) (w:World) (hc:w.cell? p = some (.int .i64 x)) (hz:w.frozen? p = false) :
  CallsD Tryz.prog 197 #[.pointer (some p)] (.panicking ({ v:=.iface 277 (.agg #[.int .i64 c]),recovered:=false } :: older)) w fun e u' w' =>
   e = .returned (.tuple #[])∧u' = .panicking ({ v:=.iface 277 (.agg #[.int .i64 c]),recovered:=true } :: older)∧∃ o,w' = (w.alloc o).setCell p (.int .i64 c):=by
 refine callsD_of_wpS Tryz.func197 rfl fun c₀ cs hu=>?_;apply wpS_seq;apply wpS_region;simp [wpOpsS,go_sem,recoverD,hu,Tryz.ntmps197,Exit.thenS];apply wpS_seq;apply wpS_region;simp [wpOpsS,go_sem,Exit.thenS];refine wpS_cond (t:=true) (by simp [Act.eval,Array.replicate]) ?_;simp only [if_true];refine wpS_of_wp ?_;have hta:=qm3 (.agg #[.int .i64 c]) w;refine wp_seq ?_;refine wp_region_list ?_;simp only [wpList,Oper.wp];simp [go_sem,hta,Exit.then]
 iterate 8 apply Or.inl
 refine wp_seq (wp_seq ?_);refine wp_region_list ?_;simp only [wpList,Oper.wp];simp [go_sem,Exit.then]
 iterate 2 apply Or.inl
 refine wp_cond (t:=false) (by simp [Act.eval,Array.replicate]) ?_;simp only [kB,if_false];refine wp_skip ?_;simp only [Exit.then];refine wp_region_list ?_;simp only [wpList,Oper.wp];have qi:=qbv hc;have VZ:(w.alloc (.cells #[.int .i64 c] 277)).cell? p = some (.int .i64 x):=by rw [World.cell?_of_block (heap_alloc_old w _ qi)];exact hc
 have hz':(w.alloc (.cells #[.int .i64 c] 277)).frozen? p = false:=by rw [World.frozen?_of_block (heap_alloc_old w _ qi)];exact hz
 simp [go_sem,VZ,hz']
 iterate 3 apply Or.inl
 simp [bodyPostS,results,Tryz.results197];exact ⟨_,rfl⟩
noncomputable def XU (X:Cx) (T:Nat):List D→qd→Option (D × qd)
 | [.fn g caps],H=>if (X.gr g && X.byRef g) = true then none else match call X g caps H with
  | some (_,H')=>some (.int .i64 0,H')
  | none=>match Kx X g caps H with
   | some (.iface t (.agg [.int .i64 c]),H')=>if t = T then vB false H.length H' (.int .i64 c) else none
   | _=>none
 | _,_=>none
theorem qkK {X:Cx} {ok ok2:Nat→Prop} {w w2 w3:World} {ι ι2:qz} {H H2:qd} {o:Obj} (hs:Sim X ok w ι H) (h2:Sim X ok2 w2 ι2 H2) (k:Evol H.length ok (w.alloc o) ι H ok2 w2 ι2 H2) (hS:Xl w2 w3) (hz:w2.heap.size≤w3.heap.size)
  (hk:∀ b,b < w2.heap.size→b≠w.heap.size→w3.heap[b]? = w2.heap[b]?):Sim X ok2 w3 ι2 H2∧Evol H.length ok w ι H ok2 w3 ι2 H2:=by
 have hb:Below w.heap.size w (w.alloc o):=(Below.refl _ w).alloc (qv _) o;have e1:Evol H.length ok w ι H ok (w.alloc o) ι H:=qgt (qv _) hb;have e2:=e1.trans k;have zx:(w.alloc o).heap.size = w.heap.size+1:=by simp
 have n1:¬ ok2 w.heap.size:=by
  intro hp;rcases k.okN _ hp (by omega) with h | ⟨i,ds,s,hd,hi⟩
  ·have:=hs.okS _ h;omega
  ·have:=hs.lt hd hi;omega
 have n2:∀ i ds s,qe H2 i = some ds→ι2 i≠some (w.heap.size,s):=by
  intro i ds s hd hi;obtain ⟨j,es,s',hj,ZC⟩:=k.own i ds _ s hd hi (by omega);have:=hs.lt hj ZC;omega
 refine ⟨qhe h2 hz (fun b hb=>hk b (h2.okS b hb) fun e=>n1 (e ▸ hb)) (fun i ds b s hd hi=>hk b (h2.lt hd hi) fun e=>n2 i ds s hd (e ▸ hi)),?_⟩;exact ⟨by rw [hS.1,e2.os],by rw [hS.2.1,e2.tape],by rw [hS.2.2,e2.output],jA e2.size hz,fun b hb zy=>by rw [hk b (jr hb e2.size) (by omega),e2.frame b hb zy],e2.okU,e2.okN,e2.nle,e2.heap,e2.own⟩
set_option maxHeartbeats 4000000 in
set_option maxRecDepth 100000 in
theorem qlI [MaxL] [TxtC] (hG:Good cx) {args:List D} {H H':qd} {r:D} {ok:Nat→Prop} {w:World} {ι:qz} {vs:List Value} (h:XU cx 277 args H = some (r,H')) (hs:Sim cx ok w ι H) (hv:RepL ok w ι H args vs) :
  Goes cx.P (callFunc 180 vs.toArray) w (CallPost cx ok w ι H r H'):=by
 unfold XU at h;split at h
 ·rename_i H0 g caps;split at h
  ·cases h
  rename_i hgr;obtain ⟨v,us,rfl,a1,a2⟩:=Zz hv;cases qau a2;cases a1 with
  | @fn _ _ _ _ cv hl hh =>
  have JC:(callFunc 180 [Value.func (.func g) #[] cv].toArray).run cx.P w = .ok (.enter 180 [Value.func (.func g) #[] cv].toArray) w:=Go.Proofs.enters_of (P:=cx.P) Tryz.func180 rfl rfl _ _;unfold Goes;rw [JC];simp only;refine calls_of_wp_defers (P:=cx.P) Tryz.func180 rfl ?_;obtain ⟨w1,e1⟩:∃ w1,w.alloc (.cells #[.int .i64 0] 3) = w1:=⟨_,rfl⟩;refine wp_seq (wp_region_list ?_);simp only [wpList,Oper.wp];simp [go_sem,Exit.then,Tryz.ntmps180,e1];apply Or.inl;refine wp_seq (wp_region_list ?_);simp only [wpList,Oper.wp];have hmf:∀ (fn:Fn) (first cap:Array Value) (w:World),(Instr.makeFunc fn first cap).run Tryz.prog w = .ok (.func fn first cap) w:=fun _ _ _ _=>rfl;simp [go_sem,Exit.then]
  iterate 2 apply Or.inl
  refine wp_seq (wp_region_list ?_);simp only [wpList,Oper.wp];simp [go_sem,Exit.then]
  iterate 2 apply Or.inl
  have hb:Below w.heap.size w w1:=e1 ▸ (Below.refl _ w).alloc (qv _) _;have s1:Sim cx ok w1 ι H:=qkL hs hb
  have v1:RepL ok w1 ι H caps cv.toList:=⟨by simpa using hl,fun j d hj=>by
   have:=(hh j d hj).same fun b qI=>hb.block b (hs.okS b qI);rw [jd,Array.getElem?_toList];rw [zw] at this;exact this⟩
  have hbk:w1.heap[w.heap.size]? = some (.cells #[.int .i64 0] 3 (0,0)):=by rw [← e1];exact heap_alloc_new w _
  have zB:w1.heap.size = w.heap.size+1:=by rw [← e1];simp
  have hfrm:∀ {ok2:Nat→Prop} {w2:World} {ι2:qz} {H2:qd},Evol H.length ok w1 ι H ok2 w2 ι2 H2→w2.heap[w.heap.size]? = some (.cells #[.int .i64 0] 3 (0,0)):=by
   intro ok2 w2 ι2 H2 k;rw [k.frame _ (by omega) fun i ds s hd hi=>by have:=hs.lt hd hi;omega];exact hbk
  cases hcall:call cx g caps H with
  | some q =>
   obtain ⟨r0,H0'⟩:=q;rw [hcall] at h;simp only [qs,qK] at h;obtain ⟨rfl,rfl⟩:=h;have hgo:=qgo hG g caps H r0 H0' ok w1 ι cv.toList hcall s1 v1;simp only [Array.toArray_toList] at hgo;refine Goes.upon (hgo.mono fun v w2 hp=>?_);obtain ⟨ι2,ok2,k1,k2,k3,k4⟩:=hp;have vy:=hfrm k3;have Q9:w2.cell? ⟨w.heap.size,0,none⟩ = some (.int .i64 0):=(by rw [Km vy];rfl);have QO:w2.frozen? ⟨w.heap.size,0,none⟩ = false:=(by rw [qdF vy];rfl);refine wp_seq (wp_region_list ?_);simp only [wpList,Oper.wp];simp [go_sem,Exit.then,Q9,QO];apply Or.inl;refine wp_ret ?_;refine leaves_cons (f:=197) (args:= #[.pointer (some ⟨w.heap.size,0,none⟩)]) (by simp) (by simp [go_sem]) ((qvw ⟨w.heap.size,0,none⟩ _).mono ?_);rintro e u' w'' ⟨rfl,rfl,rfl⟩;have ql:(w2.setCell ⟨w.heap.size,0,none⟩ (.int .i64 0)).cell? ⟨w.heap.size,0,none⟩ = some (.int .i64 0):=World.cell?_setCell_same' _ _ _ (by rw [Q9];rfl);simp [Leaves,settle,results,Tryz.results180,go_sem,ql];have hset2:Below 0 w2 (w2.setCell ⟨w.heap.size,0,none⟩ (.int .i64 0)):=(Below.refl 0 w2).setCell (vf _) _;obtain ⟨u1,u2⟩:=qkK (o:=.cells #[.int .i64 0] 3) (w3:=w2.setCell ⟨w.heap.size,0,none⟩ (.int .i64 0)) hs k1 (by rw [e1];exact k3) ⟨hset2.os,hset2.tape,hset2.output⟩ hset2.size (fun b _ qH=>Below.heap_setCell _ _ _ _ qH);exact ⟨ι2,ok2,u1,.int _ _,u2,k4 (by simpa using hgr)⟩
  | none =>
   rw [hcall] at h;simp only at h;split at h
   ·rename_i t c H2 hpan;split at h
    ·rename_i ht;subst ht;have hgo:=qn8 hG (qnD hpan) s1 v1;simp only [Array.toArray_toList] at hgo;refine GoesP.upon (hgo.mono fun v w2 hp=>?_);obtain ⟨ι2,ok2,k1,k2,k3⟩:=hp;have vy:=hfrm k3;have Q9:w2.cell? ⟨w.heap.size,0,none⟩ = some (.int .i64 0):=(by rw [Km vy];rfl);have QO:w2.frozen? ⟨w.heap.size,0,none⟩ = false:=by rw [qdF vy];rfl
     have hv:v = .iface 277 (.agg #[.int .i64 c]):=by
      cases k2 with
      | iface hr =>
       cases hr with
       | agg hl hc h =>
        rename_i us;have h0:=h 0 (.int .i64 c) rfl;have VU:us.size = 1:=by simpa using hl
        have hu:us = #[us.getD 0 undef]:=by
         apply Array.ext
         ·simp [VU]
         ·intro i h1 h2;have:i = 0:=(by omega);subst this;simp [VU]
        generalize us.getD 0 undef = x at h0 hu;cases h0;rw [hu]
     subst hv;simp only [Exit.then];refine leaves_cons (f:=197) (args:= #[.pointer (some ⟨w.heap.size,0,none⟩)]) (by simp) (by simp [go_sem]) ((qvv ⟨w.heap.size,0,none⟩ 0 c [] w2 Q9 QO).mono ?_);rintro e u' w'' ⟨rfl,rfl,o,rfl⟩;have hc3:(w2.alloc o).cell? ⟨w.heap.size,0,none⟩ = some (.int .i64 0):=(by rw [World.cell?_of_block (heap_alloc_old w2 _ (Array.getElem?_eq_some_iff.1 vy).1)];exact Q9);have ql:((w2.alloc o).setCell ⟨w.heap.size,0,none⟩ (.int .i64 c)).cell? ⟨w.heap.size,0,none⟩ = some (.int .i64 c):=World.cell?_setCell_same' _ _ _ (by rw [hc3];rfl);simp [Leaves,settle,results,Tryz.results180,go_sem,ql];have hset2:Below w2.heap.size w2 (w2.alloc o):=(Below.refl _ w2).alloc (qv _) o;have hset3:Below 0 (w2.alloc o) ((w2.alloc o).setCell ⟨w.heap.size,0,none⟩ (.int .i64 c)):=(Below.refl 0 _).setCell (vf _) _;obtain ⟨u1,u2⟩:=qkK (o:=.cells #[.int .i64 0] 3) (w3:=(w2.alloc o).setCell ⟨w.heap.size,0,none⟩ (.int .i64 c)) hs k1 (by rw [e1];exact k3) ⟨by rw [hset3.os,hset2.os],by rw [hset3.tape,hset2.tape],by rw [hset3.output,hset2.output]⟩ (jA hset2.size hset3.size) (fun b hb qH=>by rw [Below.heap_setCell _ _ _ _ qH,hset2.block b hb]);obtain ⟨ok3,ι3,p1,p2,p3,p4⟩:=qhQ u2.nle.2 u1 (Rep.int .i64 c) h;exact ⟨ι3,ok3,p1,p2,u2.trans p3,p4⟩
    ·cases h
   ·cases h
 ·cases h
end Go.Ev.S
namespace Go.Ev
open Go Go.Proofs Go.RowKit
section
variable {X:Cx} {f nt n0:Nat} {e:qn} {H:qd}
theorem qa1 {α:Type} {a b:Option α} (h:∀ x,a = some x↔b = some x):a = b:=by
 cases a with
 | none=>cases b with
  | none=>rfl
  | some y=>exact (h y).2 rfl
 | some x=>exact ((h x).1 rfl).symm
theorem qaA {c:Code} {r:D × qd}:¬ evP X 0 f nt n0 c e H = some r:=by intro h;simp [evP] at h
theorem quV {c:Operand} {a b:Code}:zO X f nt n0 (.cond c a b) e H = match qB X e c with
  | some (.bool t)=>zO X f nt n0 (if t then a else b) e H
  | _=>none:=by
 apply qa1;intro r;constructor
 ·intro h;obtain ⟨n,hn⟩:=codeP_some.1 h;cases n with
  | zero=>exact (qaA hn).elim
  | succ n =>
   rw [evP.eq_def] at hn;simp only at hn;split at hn
   ·rename_i t hc;rw [hc];exact codeP_some.2 ⟨n,hn⟩
   ·cases hn
 ·intro h;split at h
  ·rename_i t hc;exact qvd hc h
  ·cases h
theorem quW {id:Nat} {c:Code}:zO X f nt n0 (.block id c) e H = zO X f nt n0 c e H:=by
 apply qa1;intro r;constructor
 ·intro h;obtain ⟨n,hn⟩:=codeP_some.1 h;cases n with
  | zero=>exact (qaA hn).elim
  | succ n=>rw [evP.eq_def] at hn;exact codeP_some.2 ⟨n,hn⟩
 ·exact qve
theorem quR {c:Code}:zO X f nt n0 (.scope c) e H = zO X f nt n0 c e H:=by
 apply qa1;intro r;constructor
 ·intro h;obtain ⟨n,hn⟩:=codeP_some.1 h;cases n with
  | zero=>exact (qaA hn).elim
  | succ n=>rw [evP.eq_def] at hn;exact codeP_some.2 ⟨n,hn⟩
 ·exact quZ
theorem quQ {a b:Code}:zO X f nt n0 (.seq a b) e H = match qE X f nt n0 a e H with
  | some (.normal,e1,H1)=>zO X f nt n0 b e1 H1
  | some _=>none
  | none=>zO X f nt n0 a e H:=by
 apply qa1;intro r;constructor
 ·intro h;obtain ⟨n,hn⟩:=codeP_some.1 h;cases n with
  | zero=>exact (qaA hn).elim
  | succ n =>
   rw [evP.eq_def] at hn;simp only at hn;split at hn
   ·rename_i hc;rw [hc];exact codeP_some.2 ⟨n,hn⟩
   ·cases hn
   ·rename_i hc;rw [hc];exact codeP_some.2 ⟨n,hn⟩
 ·intro h;split at h
  ·rename_i hc;exact quX hc h
  ·cases h
  ·exact quY h
theorem quT {c:Code}:zO X f nt n0 (.loop c) e H = match qE X f nt n0 c e H with
  | some (.normal,e1,H1)=>zO X f nt n0 (.loop c) e1 H1
  | some _=>none
  | none=>zO X f nt n0 c e H:=by
 apply qa1;intro r;constructor
 ·intro h;obtain ⟨n,hn⟩:=codeP_some.1 h;cases n with
  | zero=>exact (qaA hn).elim
  | succ n =>
   rw [evP.eq_def] at hn;simp only at hn;split at hn
   ·rename_i hc;rw [hc];exact codeP_some.2 ⟨n,hn⟩
   ·cases hn
   ·rename_i hc;rw [hc];exact codeP_some.2 ⟨n,hn⟩
 ·intro h;split at h
  ·rename_i hc;exact qvb hc h
  ·cases h
  ·exact qvc h
theorem qnG {n:Nat} {g:Nat} {args:List D} {d:D} (h:Z0 X (evP X n) g args = some d):kX X g args = some d:=qhO (fun _ _ _ _ _ _ _ hh=>codeP_some.2 ⟨n,hh⟩) h
theorem quS {id:Nat} {ops:Array Oper}:zO X f nt n0 (.region id ops false) e H = match enter X f n0 id e H with
  | some (e1,H1)=>kD X (kX X) nt (JX X f id false ops) ops ops.toList e1 H1
  | none=>none:=by
 apply qa1;intro r;constructor
 ·intro h;obtain ⟨n,hn⟩:=codeP_some.1 h;cases n with
  | zero=>exact (qaA hn).elim
  | succ n =>
   rw [evP.eq_def] at hn;simp only at hn;split at hn
   ·rename_i zX;rw [zX];exact qdj (fun _ _ _ hh=>qnG hh) hn
   ·cases hn
 ·intro h;split at h
  ·rename_i zX;exact qva zX h
  ·cases h
theorem quU {id:Nat} {ops:Array Oper}:zO X f nt n0 (.region id ops true) e H = none:=by
 apply qa1;intro r;constructor
 ·intro h;obtain ⟨n,hn⟩:=codeP_some.1 h;cases n with
  | zero=>exact (qaA hn).elim
  | succ n=>rw [evP.eq_def] at hn;cases hn
 ·intro h;cases h
inductive OutC where
 | fin (ex:Ex) (e:qn) (H:qd)
 | pan (d:D) (H:qd)
noncomputable def zz (X:Cx) (f nt n0:Nat) (c:Code) (e:qn) (H:qd):Option OutC :=
 match qE X f nt n0 c e H with
 | some (ex,e,H)=>some (.fin ex e H)
 | none=>(zO X f nt n0 c e H).map fun p=>.pan p.1 p.2
theorem qvg {a b:Code}:zz X f nt n0 (.seq a b) e H = match zz X f nt n0 a e H with
  | some (.fin .normal e1 H1)=>zz X f nt n0 b e1 H1
  | o=>o:=by
 unfold zz;rw [qgd,quQ];cases ha:qE X f nt n0 a e H with
 | none=>cases zO X f nt n0 a e H <;> rfl
 | some q =>
  obtain ⟨ex,e1,H1⟩:=q;cases ex with
  | normal=>simp only
  | exit i=>rfl
  | ret=>rfl
theorem qvj {c:Code}:zz X f nt n0 (.loop c) e H = match zz X f nt n0 c e H with
  | some (.fin .normal e1 H1)=>zz X f nt n0 (.loop c) e1 H1
  | o=>o:=by
 have h:zz X f nt n0 (.loop c) e H = match qE X f nt n0 (.loop c) e H with
  | some (ex,e,H)=>some (.fin ex e H)
  | none=>(zO X f nt n0 (.loop c) e H).map fun p=>.pan p.1 p.2:=rfl
 rw [h,qcy,quT]
 have h2:zz X f nt n0 c e H = match qE X f nt n0 c e H with
  | some (ex,e,H)=>some (.fin ex e H)
  | none=>(zO X f nt n0 c e H).map fun p=>.pan p.1 p.2:=rfl
 rw [h2];cases ha:qE X f nt n0 c e H with
 | none=>cases zO X f nt n0 c e H <;> rfl
 | some q =>
  obtain ⟨ex,e1,H1⟩:=q;cases ex with
  | normal=>simp only;rfl
  | exit i=>rfl
  | ret=>rfl
theorem qvm {c:Operand} {a b:Code}:zz X f nt n0 (.cond c a b) e H = match qB X e c with
  | some (.bool t)=>zz X f nt n0 (if t then a else b) e H
  | _=>none:=by
 unfold zz;rw [qgf,quV];cases qB X e c with
 | none=>rfl
 | some d=>cases d <;> rfl
theorem qvn {id:Nat} {c:Code}:zz X f nt n0 (.block id c) e H = match zz X f nt n0 c e H with
  | some (.fin (.exit i) e1 H1)=>if i = id then some (.fin .normal e1 H1) else some (.fin (.exit i) e1 H1)
  | o=>o:=by
 unfold zz;rw [qgg,quW];cases ha:qE X f nt n0 c e H with
 | none=>cases zO X f nt n0 c e H <;> rfl
 | some q =>
  obtain ⟨ex,e1,H1⟩:=q;cases ex with
  | normal=>rfl
  | exit i=>by_cases hi:i = id <;> simp [hi]
  | ret=>rfl
theorem qvh {c:Code}:zz X f nt n0 (.scope c) e H = zz X f nt n0 c e H:=by
 unfold zz;rw [qge,quR]
theorem qvf:zz X f nt n0 .skip e H = some (.fin .normal e H):=by unfold zz;rw [qku]
theorem qvk {l:Nat}:zz X f nt n0 (.label l) e H = some (.fin .normal e H):=by unfold zz;rw [qkw]
theorem qvl {i:Nat}:zz X f nt n0 (.exit i) e H = some (.fin (.exit i) e H):=by unfold zz;rw [qkx]
theorem qvi:zz X f nt n0 .ret e H = some (.fin .ret e H):=by unfold zz;rw [qkv]
variable {Q:Ex→qn→qd→Prop} {P:D→qd→Prop} {fs:List Fr}
def RunO (X:Cx) (f nt n0:Nat) (Q:Ex→qn→qd→Prop) (P:D→qd→Prop):List Fr→Option OutC→Prop
 | _,none=>False
 | _,some (.pan d H)=>P d H
 | [],some (.fin ex e H)=>Q ex e H
 | .seq b :: fs,some (.fin .normal e H)=>RunO X f nt n0 Q P fs (zz X f nt n0 b e H)
 | .seq _ :: fs,some (.fin ex e H)=>RunO X f nt n0 Q P fs (some (.fin ex e H))
 | .block id :: fs,some (.fin (.exit i) e H)=>if i = id then RunO X f nt n0 Q P fs (some (.fin .normal e H)) else RunO X f nt n0 Q P fs (some (.fin (.exit i) e H))
 | .block _ :: fs,some (.fin ex e H)=>RunO X f nt n0 Q P fs (some (.fin ex e H))
variable {a b c:Code}
theorem Kv:RunO X f nt n0 Q P fs none = False:=by unfold RunO;rfl
theorem Xp {d:D}:RunO X f nt n0 Q P fs (some (.pan d H)) = P d H:=by unfold RunO;rfl
theorem Yo {ex:Ex}:RunO X f nt n0 Q P [] (some (.fin ex e H)) = Q ex e H:=by unfold RunO;rfl
theorem qhs:RunO X f nt n0 Q P (.seq b :: fs) (some (.fin .normal e H)) = RunO X f nt n0 Q P fs (zz X f nt n0 b e H):=by rw [RunO]
theorem qht {i:Nat}:RunO X f nt n0 Q P (.seq b :: fs) (some (.fin (.exit i) e H)) = RunO X f nt n0 Q P fs (some (.fin (.exit i) e H)):=by rw [RunO];intro h;cases h
theorem qhr:RunO X f nt n0 Q P (.seq b :: fs) (some (.fin .ret e H)) = RunO X f nt n0 Q P fs (some (.fin .ret e H)):=by rw [RunO];intro h;cases h
theorem qhv {id:Nat}:RunO X f nt n0 Q P (.block id :: fs) (some (.fin .normal e H)) = RunO X f nt n0 Q P fs (some (.fin .normal e H)):=by rw [RunO];intro i h;cases h
theorem qhu {id:Nat}:RunO X f nt n0 Q P (.block id :: fs) (some (.fin .ret e H)) = RunO X f nt n0 Q P fs (some (.fin .ret e H)):=by rw [RunO];intro i h;cases h
theorem qhw {id i:Nat}:RunO X f nt n0 Q P (.block id :: fs) (some (.fin (.exit i) e H)) = if i = id then RunO X f nt n0 Q P fs (some (.fin .normal e H)) else RunO X f nt n0 Q P fs (some (.fin (.exit i) e H)):=by rw [RunO]
theorem qmD:RunO X f nt n0 Q P fs (zz X f nt n0 (.seq a b) e H) = RunO X f nt n0 Q P (.seq b :: fs) (zz X f nt n0 a e H):=by
 rw [qvg];cases h:zz X f nt n0 a e H with
 | none=>simp [Kv]
 | some q =>
  cases q with
  | pan d H1=>simp [Xp]
  | fin ex e1 H1 =>
   cases ex with
   | normal=>rw [qhs]
   | exit i=>rw [qht]
   | ret=>rw [qhr]
theorem qmH {id:Nat}:RunO X f nt n0 Q P fs (zz X f nt n0 (.block id c) e H) = RunO X f nt n0 Q P (.block id :: fs) (zz X f nt n0 c e H):=by
 rw [qvn];cases h:zz X f nt n0 c e H with
 | none=>simp [Kv]
 | some q =>
  cases q with
  | pan d H1=>simp [Xp]
  | fin ex e1 H1 =>
   cases ex with
   | normal=>rw [qhv]
   | exit i=>rw [qhw];by_cases hi:i = id <;> simp [hi]
   | ret=>rw [qhu]
theorem qmE:RunO X f nt n0 Q P fs (zz X f nt n0 (.scope c) e H) = RunO X f nt n0 Q P fs (zz X f nt n0 c e H):=by rw [qvh]
theorem RunO.mono {o:Option OutC} {R:Ex→qn→qd→Prop} (h:RunO X f nt n0 R P [] o) (hq:∀ ex e H,R ex e H→RunO X f nt n0 Q P fs (some (.fin ex e H))):RunO X f nt n0 Q P fs o:=by
 cases o with
 | none=>rw [Kv] at h;exact h.elim
 | some q =>
  cases q with
  | pan d H1=>rw [Xp] at h ⊢;exact h
  | fin ex e1 H1 =>
   rw [Yo] at h;exact hq _ _ _ h
theorem RunO.loop {σ:Type} (I:σ→qn→qd→Prop) (m:σ→Nat)
  (step:∀ s e H,I s e H→RunO X f nt n0 (fun ex e' H'=>match ex with | .normal=>∃ s',m s' < m s∧I s' e' H' | ex=>Q ex e' H') P [] (zz X f nt n0 c e H)) :
  ∀ s e H,I s e H→RunO X f nt n0 Q P [] (zz X f nt n0 (.loop c) e H):=by
 suffices h:∀ k s e H,m s < k→I s e H→RunO X f nt n0 Q P [] (zz X f nt n0 (.loop c) e H) from
  fun s e H hi=>h (m s+1) s e H (Nat.lt_succ_self _) hi
 intro k
 induction k with
 | zero=>intro s e H h;omega
 | succ k ih =>
  intro s e H hk hi;have hs:=step s e H hi;rw [qvj];cases ho:zz X f nt n0 c e H with
  | none=>rw [ho,Kv] at hs;exact hs.elim
  | some q =>
   rw [ho] at hs;cases q with
   | pan d H1=>rw [Xp] at hs;simp only [Xp];exact hs
   | fin ex e1 H1 =>
    rw [Yo] at hs;cases ex with
    | normal =>
     obtain ⟨s',qi,Qe⟩:=hs;exact ih s' e1 H1 (by omega) Qe
    | exit i=>simp only [Yo];exact hs
    | ret=>simp only [Yo];exact hs
theorem RunO.loopThen {σ:Type} (I:σ→qn→qd→Prop) (m:σ→Nat) (s:σ) {e:qn} {H:qd} (h0:I s e H)
  (step:∀ s e H,I s e H→RunO X f nt n0 (fun ex e' H'=>match ex with | .normal=>∃ s',m s' < m s∧I s' e' H' | ex=>RunO X f nt n0 Q P fs (some (.fin ex e' H'))) P [] (zz X f nt n0 c e H)) :
  RunO X f nt n0 Q P fs (zz X f nt n0 (.loop c) e H):=by
 have h:=RunO.loop (Q:=fun ex e H=>ex≠.normal∧RunO X f nt n0 Q P fs (some (.fin ex e H))) I m (fun s e H hi=>by
  refine RunO.mono (step s e H hi) ?_;intro ex e' H' hq;rw [Yo];cases ex with
  | normal=>exact hq
  | exit i=>exact ⟨by simp,hq⟩
  | ret=>exact ⟨by simp,hq⟩) s e H h0
 exact RunO.mono h fun ex e H hq=>hq.2
noncomputable def Xt (X:Cx) (P:Nat→List D→Option D) (nt:Nat) (bw:Bool):List SOp→qn→qd→Option (D × qd)
 | [],_,_=>none
 | o :: l,e,H=>match jN nt o.dst,Jq e o.g with
  | true,some true=>match qD X (call X) bw o.op e H with
   | some (d,H')=>Xt X P nt bw l (zV e o.dst d) H'
   | none=>(kW X P o.op e).map (·,H)
  | true,some false=>Xt X P nt bw l (zV e o.dst (.tup [])) H
  | _,_=>none
theorem qhY {PF:Nat→List D→Option D} {bw:Bool} (ops:Array Oper):∀ (l:List Oper) (e:qn) (H:qd),kD X PF nt bw ops l e H = Xt X PF nt bw (kK ops l) e H
 | [],e,H=>rfl
 | o :: l,e,H=>by
  have h3:Jq e (Yl ops o).g = js ops e o.guard:=(qf8 ops e o.guard).symm;rw [kD];show _ = Xt X PF nt bw (Yl ops o :: kK ops l) e H;rw [Xt,h3];simp only [qhY ops l];rfl
def QY (X:Cx) (f nt n0:Nat) (Q:Ex→qn→qd→Prop) (P:D→qd→Prop) (fs:List Fr) (drw:Bool) (l:List SOp) (e:qn) (H:qd):Prop :=
 match Vs X (call X) nt drw l e H with
 | some (e1,H1)=>RunO X f nt n0 Q P fs (some (.fin .normal e1 H1))
 | none=>match Xt X (kX X) nt drw l e H with
  | some (d,H1)=>P d H1
  | none=>False
def Ya (X:Cx) (f nt n0:Nat) (Q:Ex→qn→qd→Prop) (P:D→qd→Prop) (fs:List Fr) (drw:Bool) (l:List SOp) (e:qn) (H:qd) (dst:Option Tmp) (op:Op):Option (D × qd)→Prop
 | none=>match kW X (kX X) op e with
  | some d=>P d H
  | none=>False
 | some (d,H)=>QY X f nt n0 Q P fs drw l (zV e dst d) H
def Yb (X:Cx) (f nt n0:Nat) (Q:Ex→qn→qd→Prop) (P:D→qd→Prop) (fs:List Fr) (drw:Bool) (dst:Option Tmp) (op:Op) (want:Bool) (l:List SOp) (e:qn) (H:qd):Option D→Prop
 | some (.bool b)=>if b = want then Ya X f nt n0 Q P fs drw l e H dst op (qD X (call X) drw op e H) else QY X f nt n0 Q P fs drw l (zV e dst (.tup [])) H
 | some (.tup [])=>QY X f nt n0 Q P fs drw l (zV e dst (.tup [])) H
 | _=>False
theorem qmK {drw:Bool}:QY X f nt n0 Q P fs drw [] e H = RunO X f nt n0 Q P fs (some (.fin .normal e H)):=rfl
theorem qmL {drw:Bool} {dst:Option Tmp} {op:Op} {l:List SOp} {d:D} {H':qd}:Ya X f nt n0 Q P fs drw l e H dst op (some (d,H')) = QY X f nt n0 Q P fs drw l (zV e dst d) H':=rfl
theorem qmM {drw:Bool} {dst:Option Tmp} {op:Op} {l:List SOp}:Ya X f nt n0 Q P fs drw l e H dst op none = match kW X (kX X) op e with
  | some d=>P d H
  | none=>False:=rfl
theorem qmO {drw:Bool} {dst:Option Tmp} {op:Op} {l:List SOp} {want b:Bool}:Yb X f nt n0 Q P fs drw dst op want l e H (some (.bool b)) =
  if b = want then Ya X f nt n0 Q P fs drw l e H dst op (qD X (call X) drw op e H) else QY X f nt n0 Q P fs drw l (zV e dst (.tup [])) H:=rfl
theorem qmN {drw:Bool} {dst:Option Tmp} {op:Op} {l:List SOp} {want:Bool}:Yb X f nt n0 Q P fs drw dst op want l e H (some (.tup [])) = QY X f nt n0 Q P fs drw l (zV e dst (.tup [])) H:=rfl
theorem qmJ {drw:Bool} {dst:Option Tmp} {op:Op} {l:List SOp}:QY X f nt n0 Q P fs drw (⟨dst,op,none⟩ :: l) e H =
  (jN nt dst = true∧Ya X f nt n0 Q P fs drw l e H dst op (qD X (call X) drw op e H)):=by
 unfold QY;simp only [Vs,Xt,Jq];cases jN nt dst with
 | false=>simp
 | true =>
  cases qD X (call X) drw op e H with
  | none=>cases hp:kW X (kX X) op e <;> simp [Ya,hp]
  | some q=>simp [Ya,QY]
theorem qmI {drw:Bool} {dst:Option Tmp} {op:Op} {l:List SOp} {t:Tmp} {want:Bool}:QY X f nt n0 Q P fs drw (⟨dst,op,some (some t,want)⟩ :: l) e H =
  (jN nt dst = true∧Yb X f nt n0 Q P fs drw dst op want l e H (qg e t)):=by
 unfold QY;simp only [Vs,Xt,Jq];cases jN nt dst with
 | false=>simp
 | true =>
  cases qg e t with
  | none=>simp [Yb]
  | some d =>
   cases d with
   | bool b =>
    by_cases hb:b = want
    ·subst hb;simp only [beq_self_eq_true,Yb,if_true,true_and];cases qD X (call X) drw op e H with
     | none=>cases hp:kW X (kX X) op e <;> simp [Ya,hp]
     | some q=>simp [Ya,QY]
    ·have:(b == want) = false:=(by simpa using hb);simp [Yb,hb,this,QY]
   | tup cs =>
    cases cs with
    | nil=>simp [Yb,QY]
    | cons=>simp [Yb]
   | _=>simp [Yb]
def qek (X:Cx) (f nt n0:Nat) (Q:Ex→qn→qd→Prop) (P:D→qd→Prop) (fs:List Fr) (drw:Bool) (l:List SOp):Option (qn × qd)→Prop
 | none=>False
 | some (e,H)=>QY X f nt n0 Q P fs drw l e H
theorem qmP {drw:Bool} {l:List SOp}:qek X f nt n0 Q P fs drw l (some (e,H)) = QY X f nt n0 Q P fs drw l e H:=rfl
theorem qmG {id:Nat} {ops:Array Oper}:RunO X f nt n0 Q P fs (zz X f nt n0 (.region id ops false) e H) = qek X f nt n0 Q P fs (X.cv f id) (kK ops ops.toList) (enter X f n0 id e H):=by
 unfold zz;rw [qdU,quS];cases enter X f n0 id e H with
 | none=>simp [Kv,qek]
 | some q =>
  simp only [qek,QY,QC,qdK,qhY,JX];cases Vs X (call X) nt (X.cv f id) (kK ops ops.toList) q.1 q.2 with
  | some r=>simp
  | none =>
   simp only [Option.map_none];cases Xt X (kX X) nt (X.cv f id) (kK ops ops.toList) q.1 q.2 with
   | none=>simp [Kv]
   | some p=>simp [Xp]
theorem qmF {id:Nat} {ops:Array Oper}:RunO X f nt n0 Q P fs (zz X f nt n0 (.region id ops true) e H) = Run X f nt n0 (fun ex e H=>RunO X f nt n0 Q P fs (some (.fin ex e H))) [] (qE X f nt n0 (.region id ops true) e H):=by
 unfold zz;rw [quU];cases qE X f nt n0 (.region id ops true) e H with
 | none=>simp [Kv]
 | some q=>obtain ⟨ex,e1,H1⟩:=q;simp
theorem qn9 {PF:Nat→List D→Option D} {x:Operand}:kW X PF (.panic x) e = match qB X e x with
  | some (.iface t d)=>if idFree d && vFree d then some (.iface t d) else none
  | _=>none:=rfl
theorem qnC {PF:Nat→List D→Option D} {g:Operand} {args:Array Operand} {ts:Array TypeId}:kW X PF (.call { callee:=.value g,args:=args,argTypes:=ts }) e = match j5 X e args.toList with
  | some vs=>match qB X e g with
   | some (.fn f caps)=>PF f (vs ++ caps)
   | _=>none
  | none=>none:=by
 unfold kW;simp only;cases j5 X e args.toList <;> rfl
theorem qul {F:qO} {x:Operand}:qT X F (.panic x) e H = none:=rfl
theorem qkC {fn:Func} {args:List D} {r:D × qd} {d:D} (C:Prop) (hf:X.P.funcs[f]? = some fn) (hb:fn.body.isSome = true) (hbad:X.bad f = false∧X.con f args [] = none) (ha:args.all idFree = true) (hd:idFree d = true∧vFree d = true)
  (h:RunO X f fn.ntmps ([]:qd).length (fun ex e H=>Fin X (X.fzr f) fn.results.toList ([]:qd).length r ex e H∧C) (fun d' _=>d' = d∧¬ C) [] (zz X f fn.ntmps ([]:qd).length (jj (kQ fn)) (jI 0 args) [])) (hg:(X.gr f && X.byRef f) = false:=by rfl) :
  (C→call X f args [] = some r)∧(¬ C→call X f args [] = none∧kX X f args = some d):=by
 unfold zz at h;cases hc:qE X f fn.ntmps ([]:qd).length (jj (kQ fn)) (jI 0 args) [] with
 | some q =>
  obtain ⟨ex,e1,H1⟩:=q;rw [hc] at h;simp only [Yo] at h;exact ⟨fun _=>qA hf hb hbad (by rw [hc,Zy];exact h.1) hg,fun hn=>absurd h.2 hn⟩
 | none =>
  rw [hc] at h;simp only at h;cases hp:zO X f fn.ntmps ([]:qd).length (jj (kQ fn)) (jI 0 args) [] with
  | none=>rw [hp] at h;simp [Kv] at h
  | some p =>
   rw [hp] at h;simp only [zT,Xp] at h;obtain ⟨rfl,hn⟩:=h;have hpf:=qnI hf hb hbad ha hd (H':=p.2) hp;exact ⟨fun hC=>absurd hC hn,fun _=>⟨qnJ hpf,hpf⟩⟩
theorem qkB {fn:Func} {args:List D} {r p:D × qd} (C:Prop) (hf:X.P.funcs[f]? = some fn) (hb:fn.body.isSome = true) (hbad:X.bad f = false∧X.con f args H = none)
  (h:RunO X f fn.ntmps H.length (fun ex e H'=>Fin X (X.fzr f) fn.results.toList H.length r ex e H'∧C) (fun d' H'=>(d',H') = p∧¬ C) [] (zz X f fn.ntmps H.length (jj (kQ fn)) (jI 0 args) H)) (hg:(X.gr f && X.byRef f) = false:=by rfl) :
  (C→call X f args H = some r)∧(¬ C→call X f args H = none∧Kx X f args H = some p):=by
 unfold zz at h;cases hc:qE X f fn.ntmps H.length (jj (kQ fn)) (jI 0 args) H with
 | some q =>
  obtain ⟨ex,e1,H1⟩:=q;rw [hc] at h;simp only [Yo] at h;exact ⟨fun _=>qA hf hb hbad (by rw [hc,Zy];exact h.1) hg,fun hn=>absurd h.2 hn⟩
 | none =>
  rw [hc] at h;simp only at h;cases hp:zO X f fn.ntmps H.length (jj (kQ fn)) (jI 0 args) H with
  | none=>rw [hp] at h;simp [Kv] at h
  | some p' =>
   rw [hp] at h;simp only [zT,Xp] at h;obtain ⟨rfl,hn⟩:=h;have hpf:=qnE hf hb hbad.1 (r:=p') hp;exact ⟨fun hC=>absurd hC hn,fun _=>⟨qnF hbad.2 hpf,hpf⟩⟩
end
attribute [simp] qvf qvk qvl qvi qvm Kv Xp Yo qhs qht qhr qhv qhu qhw qmD qmH qmE qmK qmJ qmI qmL qmM qmO qmN qmP qmG qmF qn9 qnC qul
end Go.Ev
namespace Go.Ev.S
open Go Go.Proofs Go.Ev
def Vz (c:Nat):D:=.iface 277 (.agg [.int .i64 (c:Nat)])
theorem qoz [MaxL] [TxtC] (c:Nat):(c = 0→call cx 184 [.int .i64 (c:Nat)] [] = some (.tup [],[]))∧(¬ c = 0→call cx 184 [.int .i64 (c:Nat)] [] = none∧kX cx 184 [.int .i64 (c:Nat)] = some (Vz c)):=by
 refine qkC (c = 0) Tryz.func184 rfl ⟨rfl,rfl⟩ (by simp [idFree]) (by simp [Vz,idFree,vFree]) ?_;by_cases h:c = 0
 ·subst h;simp [Tryz.f184,Vz]
 ·have h':((c:Int) != 0) = true:=by simp only [bne_iff_ne,ne_eq];omega
  simp [Tryz.f184,Vz,h,h']
def zP (b:Sl UInt8) (h:HdP):List D:=(.vsl b.nil (qf b.l) b.l.length) :: Enc.cells h
theorem qcf (h:HdP):(Enc.cells h).drop 67 = .int .u64 (h.siz:Nat) :: (Enc.cells h).drop 68:=h.dn (i:=0) (by omega)
set_option maxRecDepth 4000 in
theorem qlv [MaxL] [TxtC] (b:Sl UInt8) (h:HdP) (hl:b.l.length≤1000000) (a:Nat) (_ha:a < 18446744073709551616) :
  (¬ (a < h.siz∨b.l.length≤a)→call cx 182 [.vptr (zP b h),.int .u64 a] [] = some (.tup [],[])) ∧
  (¬ ¬ (a < h.siz∨b.l.length≤a)→call cx 182 [.vptr (zP b h),.int .u64 a] [] = none∧kX cx 182 [.vptr (zP b h),.int .u64 a] = some (Vz 2)):=by
 have hend:call cx 142 [.vptr (zP b h)] [] = some (.int .u64 b.l.length,[]):=by
  refine qA Tryz.func142 rfl ⟨rfl,rfl⟩ ?_;have hw:IntKind.u64.wrap (b.l.length:Int) = (b.l.length:Int):=by rw [qF];omega
  simp [Tryz.f142,zP,hw]
 refine qkC _ Tryz.func182 rfl ⟨rfl,rfl⟩ (by simp [idFree,zP]) (by simp [Vz,idFree,vFree]) ?_;have h67:=qcf h;by_cases h1:a < h.siz
 ·have zR:(a:Int) < (h.siz:Int):=by omega
  simp [Tryz.f182,Vz,h67,h1,zR,zP]
 have zR:¬ (a:Int) < (h.siz:Int):=by omega
 by_cases h2:b.l.length≤a
 ·have vn:(b.l.length:Int)≤(a:Int):=by omega
  simp only [zP] at hend ⊢;simp [Tryz.f182,Vz,h67,h1,zR,hend,h2,vn]
 ·have vn:¬ (b.l.length:Int)≤(a:Int):=by omega
  simp only [zP] at hend ⊢;simp [Tryz.f182,Vz,h67,h1,zR,hend,h2,vn]
def qc5 (b:List UInt8) (a:Nat):List D:=[.int .u64 ((vq b a).headD 0:Nat),.vsl false (zg (vq b a).tail) (vq b a).tail.length]
set_option maxHeartbeats 1000000 in
set_option maxRecDepth 4000 in
theorem qlz [MaxL] [TxtC] (b:Sl UInt8) (h:HdP) (hl:b.l.length≤1000000) (a:Nat) (ha:a < 18446744073709551616) :
  (kb b.l h.siz a = 0→call cx 181 [.optr 0 1 0,.optr 1 1 0,.optr 2 2 0] [some [.vptr (zP b h)],some [.int .u64 a],some [.int .u64 0,.vsl true [] 0]] =
   some (.tup [],[some [.vptr (zP b h)],some [.int .u64 a],some (qc5 b.l a)])) ∧
  (¬ kb b.l h.siz a = 0→call cx 181 [.optr 0 1 0,.optr 1 1 0,.optr 2 2 0] [some [.vptr (zP b h)],some [.int .u64 a],some [.int .u64 0,.vsl true [] 0]] = none ∧
   ∃ L,Kx cx 181 [.optr 0 1 0,.optr 1 1 0,.optr 2 2 0] [some [.vptr (zP b h)],some [.int .u64 a],some [.int .u64 0,.vsl true [] 0]] =
   some (Vz (kb b.l h.siz a),[some [.vptr (zP b h)],some [.int .u64 a],some [.int .u64 0,.vsl true [] 0]] ++ L)):=by
 obtain ⟨w1,w2⟩:=qlv b h hl a ha;obtain ⟨m1,m2⟩:=qoz (JN b.l a);have hr:=qno b hl a ha;by_cases Vl:a < h.siz∨b.l.length≤a
 ·have hV:kb b.l h.siz a = 2:=by unfold kb;rw [if_pos Vl]
  obtain ⟨w3,w4⟩:=w2 (fun hn=>hn Vl);rw [hV];refine ⟨by omega,fun _=>?_⟩;have key:=qkB (X:=cx) (f:=181) (H:=[some [.vptr (zP b h)],some [.int .u64 a],some [.int .u64 0,.vsl true [] 0]]) (args:=[.optr 0 1 0,.optr 1 1 0,.optr 2 2 0]) (r:=(.tup [],[])) (p:=(Vz 2,[some [.vptr (zP b h)],some [.int .u64 a],some [.int .u64 0,.vsl true [] 0]])) False Tryz.func181 rfl ⟨rfl,rfl⟩ ?_
  ·obtain ⟨k1,k2⟩:=key.2 id;exact ⟨k1,[],by rw [Xm];exact k2⟩
  ·simp only [zP] at w3 w4 ⊢;simp [Tryz.f181,w3,w4]
 have hV:kb b.l h.siz a = JN b.l a:=by unfold kb;rw [if_neg Vl]
 have w3:=w1 Vl;rw [hV];by_cases h0:JN b.l a = 0
 ·have XA:=m1 h0;rw [h0] at hr XA;have hm:call cx 184 [.int .i64 0] [] = some (.tup [],[]):=XA;have hA:XX b.l a = .agg (qc5 b.l a):=by unfold XX;rw [if_pos h0];rfl
  rw [hA] at hr;refine ⟨fun _=>?_,fun hn=>absurd h0 hn⟩;refine qA Tryz.func181 rfl ⟨rfl,rfl⟩ ?_;simp only [zP,qc5] at w3 hr ⊢;obtain ⟨x,hx⟩:∃ x,(vq b.l a).headD 0 = x:=⟨_,rfl⟩;obtain ⟨l,hl⟩:∃ l,(vq b.l a).tail = l:=⟨_,rfl⟩;rw [hx,hl] at hr ⊢;simp [Tryz.f181,w3,hr,hm]
 ·obtain ⟨m3,m4⟩:=m2 h0;refine ⟨fun h=>absurd h h0,fun _=>?_⟩;have hA:XX b.l a = .agg [.int .u64 0,.vsl true [] 0]:=by unfold XX;rw [if_neg h0]
  rw [hA] at hr;have key:=qkB (X:=cx) (f:=181) (H:=[some [.vptr (zP b h)],some [.int .u64 a],some [.int .u64 0,.vsl true [] 0]]) (args:=[.optr 0 1 0,.optr 1 1 0,.optr 2 2 0]) (r:=(.tup [],[])) (p:=(Vz (JN b.l a),[some [.vptr (zP b h)],some [.int .u64 a],some [.int .u64 0,.vsl true [] 0]] ++ [some [.int .u64 0,.vsl true [] 0]])) False Tryz.func181 rfl ⟨rfl,rfl⟩ ?_
  ·obtain ⟨k1,k2⟩:=key.2 id;exact ⟨k1,_,k2⟩
  ·simp only [zP] at w3 ⊢;simp [Tryz.f181,w3,hr,m3,m4]
@[instance_reducible] def qao:TxtC:=⟨fun _ _ _=>none⟩
theorem qlD [MaxL]:@qgv _ qao:=fun h=>by cases h
noncomputable instance txt1 [MaxL]:TxtC:=⟨fun f=>if f = 180 then XU (@cx _ qao) 277 else fun _ _=>none⟩
set_option maxRecDepth 100000 in
theorem qlC [MaxL]:qgv:=by
 intro f args H r H' h ok w ι vs hs hv;replace h:(if f = 180 then XU (@cx _ qao) 277 else fun _ _=>none) args H = some (r,H'):=h;by_cases h1:f = 180
 ·rw [if_pos h1] at h;subst h1;have:=@qlI _ qao (@qch _ qao qlD) args H H' r ok w ι vs h ⟨hs.okS,hs.glob,hs.inj,hs.blk⟩ hv;refine this.mono ?_;rintro v w' ⟨ι',ok',k1,k2,k3,k4⟩;exact ⟨ι',ok',⟨k1.okS,k1.glob,k1.inj,k1.blk⟩,k2,k3,k4⟩
 ·rw [if_neg h1] at h;cases h
theorem quL {X:Cx} {T g:Nat} {caps:List D} {H H':qd} {r:D} (hg:(X.gr g && X.byRef g) = false) (h:call X g caps H = some (r,H')):XU X T [.fn g caps] H = some (.int .i64 0,H'):=by
 simp only [XU,hg,h];rfl
theorem quK {X:Cx} {T g:Nat} {caps:List D} {H H':qd} {c:Int} (hg:(X.gr g && X.byRef g) = false) (h:call X g caps H = none) (hp:Kx X g caps H = some (.iface T (.agg [.int .i64 c]),H')):XU X T [.fn g caps] H = vB false H.length H' (.int .i64 c):=by
 simp only [XU,hg,h,hp];simp
def qb2 (b:List UInt8) (sz a:Nat):D:=if kb b sz a = 0 then .agg (qc5 b a) else .agg [.int .u64 0,.vsl true [] 0]
set_option maxHeartbeats 1000000 in
set_option maxRecDepth 4000 in
theorem qly [MaxL] (b:Sl UInt8) (h:HdP) (hl:b.l.length≤1000000) (a:Nat) (ha:a < 18446744073709551616) :
  call cx 143 [.vptr (zP b h),.int .u64 a] [] = some (.tup [qb2 b.l h.siz a,.int .i64 (kb b.l h.siz a:Nat)],[]):=by
 obtain ⟨k1,k2⟩:=@qlz _ qao b h hl a ha;have hfree:idFree (.fn 181 [.optr 0 1 0,.optr 1 1 0,.optr 2 2 0]) = false:=by simp [idFree]
 have hT:∃ (x:Nat) (nl:Bool) (l:List Nat),qb2 b.l h.siz a = .agg [.int .u64 (x:Nat),.vsl nl (zg l) l.length]∧XU (@cx _ qao) 277 [.fn 181 [.optr 0 1 0,.optr 1 1 0,.optr 2 2 0]] [some [.vptr (zP b h)],some [.int .u64 a],some [.int .u64 0,.vsl true [] 0]] =
   some (.int .i64 (kb b.l h.siz a:Nat),[some [.vptr (zP b h)],some [.int .u64 a],some [.int .u64 (x:Nat),.vsl nl (zg l) l.length]]):=by
  by_cases h0:kb b.l h.siz a = 0
  ·refine ⟨_,_,_,by unfold qb2;rw [if_pos h0];rfl,?_⟩;rw [h0];exact quL rfl (k1 h0)
  ·obtain ⟨k3,L,k4⟩:=k2 h0;refine ⟨0,true,[],by unfold qb2;rw [if_neg h0];rfl,?_⟩;rw [quK rfl k3 k4];simp [vB,Ys,zP]
 obtain ⟨x,nl,l,KZ,hc3⟩:=hT;rw [KZ];have hcall:=qbx (X:=cx) (f:=180) (show cx.con 180 [.fn 181 [.optr 0 1 0,.optr 1 1 0,.optr 2 2 0]] [some [.vptr (zP b h)],some [.int .u64 a],some [.int .u64 0,.vsl true [] 0]] = _ from hc3);refine qA Tryz.func143 rfl ⟨rfl,rfl⟩ ?_;simp only [zP] at hcall ⊢;simp [Tryz.f143,hcall]
theorem qlx [MaxL] (b:Sl UInt8) (h:HdP) (hl:b.l.length≤1000000):call cx 142 [.vptr (zP b h)] [] = some (.int .u64 b.l.length,[]):=by
 refine qA Tryz.func142 rfl ⟨rfl,rfl⟩ ?_;have hw:IntKind.u64.wrap (b.l.length:Int) = (b.l.length:Int):=by rw [qF];omega
 simp [Tryz.f142,zP,hw]
theorem qg6 [MaxL] (b:Sl UInt8) (h:HdP):call cx 35 [.vptr (zP b h)] [] = some (.agg (Enc.cells h),[]):=by
 refine qA Tryz.func35 rfl ⟨rfl,rfl⟩ ?_;simp [Tryz.f35,zP]
theorem qok [MaxL] (b:Sl UInt8) (h:HdP) (hl:b.l.length≤1000000) (a:Nat):call cx 97 [.vptr (zP b h),.int .u64 a] [] = some (.bool (Ky b.l a),[]):=by
 have hend:=qlx b h hl;refine qA Tryz.func97 rfl ⟨rfl,rfl⟩ ?_;simp only [zP] at hend ⊢;unfold Ky;by_cases h1:a = 0
 ·subst h1;simp [Tryz.f97]
 ·have zR:¬ (a:Int) = 0:=by omega
  simp [Tryz.f97,hend,h1]
def JZ (d:D) (a b:Nat):List D:=[d,.int .u64 (a:Nat),.int .u64 (b:Nat)]
theorem qsq [MaxL] {H:qd} {q:Nat} {d:D} {a b:Nat} {out:List Nat} {L:List Nat} (hq:qe H q = some (JZ d a b)) (hr:RowA H 1 d (zg out) L) (hn:q ∉ L) (x:Nat) (hlen:out.length≤1000000) :
  ∃ T,call cx 99 [.optr q 3 0,.int .u64 (x:Nat)] H = some (.int .i64 (if 0 < out.length∧x≤out.getLastD 0 then 13 else 0:Nat),T)∧Ext (q :: L) H T∧((0 < out.length∧x≤out.getLastD 0)→T = H) ∧
   (¬ (0 < out.length∧x≤out.getLastD 0)→∃ d' L',qe T q = some (JZ d' a b)∧RowA T 1 d' (zg (out ++ [x])) L'∧q ∉ L'∧NewL (q :: L) (q :: L') H.length):=by
 have jL:=hq;simp only [JZ] at jL;obtain ⟨H1,e1⟩:∃ K,qo H [.int .u64 (x:Nat)] = K:=⟨_,rfl⟩;have x1:Ext [] H H1:=e1 ▸ Ext.new H _;have g1:qe H1 H.length = some [.int .u64 (x:Nat)]:=by rw [← e1,qN]
 have r1:RowA H1 1 d (zg out) L:=hr.ext x1 fun _ _=>by simp
 obtain ⟨d',H2,L2,hA,hR2,x2,n2⟩:=r1.append (P:=Tryz.prog) (st:=91) (xt:=91) (e:=25) (x:=.osl H.length 1 0 1 1) (xs:=[.int .u64 (x:Nat)]) (m:=1) (by simp) (by simp) (by simp [-qe,g1]) (by simp) (by omega) (by simp) (by omega) (by simp [qw];omega) (by simp [qw];omega);have hqq:q < H.length:=qt hq;have Jf:qe H1 q = some [d,.int .u64 (a:Nat),.int .u64 (b:Nat)]:=x1.get jL (by simp);have X7:qe H2 q = some [d,.int .u64 (a:Nat),.int .u64 (b:Nat)]:=x2.get Jf hn;obtain ⟨r,n,hv,hlen2,hr2,hL2⟩:=hR2.own (by simp);subst hv;obtain ⟨T,eT⟩:∃ K,ql H2 q [.osl r (zg out ++ [D.int .u64 (x:Nat)]).length 0 n 1,.int .u64 (a:Nat),.int .u64 (b:Nat)] = K:=⟨_,rfl⟩;have XB:r < H2.length:=qt hr2
 have hq_n:q ∉ L2:=fun hc=>by
  rcases n2 q hc with h | h
  ·exact hn h
  ·have:=x1.len;omega
 have hTail:∀ hcall:call cx 99 [.optr q 3 0,.int .u64 (x:Nat)] H = some (.int .i64 0,T),¬ (0 < out.length∧x≤out.getLastD 0)→∃ T,call cx 99 [.optr q 3 0,.int .u64 (x:Nat)] H = some (.int .i64 (if 0 < out.length∧x≤out.getLastD 0 then 13 else 0:Nat),T)∧Ext (q :: L) H T∧((0 < out.length∧x≤out.getLastD 0)→T = H) ∧
   (¬ (0 < out.length∧x≤out.getLastD 0)→∃ d' L',qe T q = some (JZ d' a b)∧RowA T 1 d' (zg (out ++ [x])) L'∧q ∉ L'∧NewL (q :: L) (q :: L') H.length):=by
  intro hcall hc;refine ⟨T,by rw [if_neg hc];exact hcall,?_,fun h=>absurd h hc,fun _=>⟨.osl r (zg out ++ [D.int .u64 (x:Nat)]).length 0 n 1,L2,?_,?_,hq_n,?_⟩⟩
  ·refine (x1.mono (M:=q :: L) fun i hi=>by simp at hi).trans (M:=q :: L) ?_ (NewL.refl _ _);refine (x2.mono (M:=q :: L) fun i hi=>kS _ hi).trans (M:=q :: L) ?_ (NewL.refl _ _);exact (eT ▸ Ext.set H2 q _:Ext [q] H2 T).mono fun i hi=>by rw [List.mem_singleton.1 hi];simp
  ·rw [← eT];exact qV (qt X7)
  ·rw [qiq];exact hR2.ext (eT ▸ Ext.set H2 q _:Ext [q] H2 T) fun i hi hc=>hq_n (List.mem_singleton.1 hc ▸ hi)
  ·intro i hi;rcases List.mem_cons.1 hi with rfl | hi
   ·exact .inl (by simp)
   ·rcases n2 i hi with h | h
    ·exact .inl (by simp [h])
    ·exact .inr (jA x1.len h)
 rcases Nat.eq_zero_or_pos out.length with h0 | h0
 ·have jp:out = []:=List.length_eq_zero_iff.1 h0;subst jp;refine hTail ?_ (by simp);refine zt Tryz.func99 rfl ⟨rfl,rfl⟩ ?_;rcases hr with ⟨rfl,hcs,rfl⟩ | ⟨r',n',rfl,h2,h3,rfl⟩
  ·simp only [qir,JP,List.length_singleton] at hA eT;simp [-qe,-ql,-qo,-qM,Tryz.f99,jL,e1,hA,X7,eT,XB]
  ·have hz:n' = 0:=(by simp at h2;omega);subst hz;simp only [qir,JP,List.length_singleton,jR] at hA eT jL X7;simp [-qe,-ql,-qo,-qM,Tryz.f99,jL,e1,hA,X7,eT,XB]
 ·obtain ⟨r',n',rfl,h2,h3,rfl⟩:=hr.own (by intro h;have h':=congrArg List.length h;rw [Yw,jR] at h';omega);have hn':n' = out.length:=by simp at h2;omega
  subst hn';have c1:(0:Int) < (out.length:Int):=by omega
  have hw:IntKind.i64.wrap ((out.length:Int) - 1) = (out.length:Int) - 1:=by rw [wrap_i64];omega
  have YL:(zg out).drop (out.length - 1) = [.int .u64 (out.getLastD 0:Nat)]:=by
   have qi:out.length - 1 < out.length:=(by omega);rw [vR (by simpa using qi),List.drop_of_length_le (by simp;omega)]
   have:out.getLastD 0 = out[out.length - 1]:=by
    rw [List.getLastD_eq_getLast?,List.getLast?_eq_getElem?,qU qi];rfl
   rw [this];simp [zg]
  have c3:(1:Int)≤(out.length:Int)∧(out.length:Int) - 1 < (out.length:Int):=by omega
  simp only [qX,Yw,List.length_singleton] at hA eT jL X7;have n1:((out.length:Int) - 1).toNat = out.length - 1:=by omega
  have c2:(0:Int)≤(out.length:Int) - 1:=by omega
  by_cases hc:x≤out.getLastD 0
  ·refine ⟨H,?_,Ext.refl _ _,fun _=>rfl,fun h=>absurd ⟨h0,hc⟩ h⟩;rw [if_pos ⟨h0,hc⟩];refine zt Tryz.func99 rfl ⟨rfl,rfl⟩ ?_;have VZ:(x:Int)≤(out.getLastD 0:Nat):=(by omega);generalize out.getLastD 0 = z at *;simp [-qe,-ql,-qo,-qM,Tryz.f99,jL,h3,hw,YL,n1,h0,VZ,c3]
  ·refine hTail ?_ fun h=>hc h.2;refine zt Tryz.func99 rfl ⟨rfl,rfl⟩ ?_;have VZ:¬ (x:Int)≤(out.getLastD 0:Nat):=(by omega);generalize out.getLastD 0 = z at *;simp [-qe,-ql,-qo,-qM,Tryz.f99,jL,h3,hw,YL,n1,h0,VZ,e1,hA,X7,eT,XB,c3]
def qb1 (b:List UInt8) (sz a:Nat):Nat:=if kb b sz a = 0 then (vq b a).headD 0 else 0
def qac (b:List UInt8) (sz a:Nat):List Nat:=if kb b sz a = 0 then (vq b a).tail else []
theorem qvV (b:List UInt8) (sz a:Nat):qb2 b sz a = .agg [.int .u64 (qb1 b sz a:Nat),.vsl (decide (¬ kb b sz a = 0)) (zg (qac b sz a)) (qac b sz a).length]:=by
 unfold qb2 qb1 qac;by_cases h:kb b sz a = 0
 ·rw [if_pos h,if_pos h,if_pos h];simp [h,qc5]
 ·rw [if_neg h,if_neg h,if_neg h];simp [h]
theorem qoY [MaxL] {H:qd} {q:Nat} {d:D} {a c:Nat} (hq:qe H q = some (JZ d a c)) (b:Sl UInt8) (h:HdP) (hl:b.l.length≤1000000) (ha:a < 18446744073709551616) (hac:c < a) :
  ∃ T,call cx 98 [.optr q 3 0,.vptr (zP b h)] H = some (.tup [.vsl (decide (¬ kb b.l h.siz a = 0)) (zg (qac b.l h.siz a)) (qac b.l h.siz a).length,.int .i64 (kb b.l h.siz a:Nat)],T)∧qe T q = some (JZ d (qb1 b.l h.siz a) a)∧Ext [q] H T:=by
 have hv:=qly b h hl a ha;rw [qvV] at hv;generalize decide (¬ kb b.l h.siz a = 0) = nl at *;generalize qac b.l h.siz a = l at *;generalize qb1 b.l h.siz a = x at *;generalize kb b.l h.siz a = C at *;have jL:=hq;simp only [JZ] at jL;have hac':¬ (a:Int)≤(c:Int):=by omega
 obtain ⟨p,hp⟩:∃ p,H.length = p:=⟨_,rfl⟩;obtain ⟨H0,e0⟩:∃ K,qo H [.int .u64 0,.vsl true [] 0] = K:=⟨_,rfl⟩;have x0:Ext [] H H0:=e0 ▸ Ext.new H _;have hq0:=x0.get jL (by simp);have hp0:qe H0 p = some [.int .u64 0,.vsl true [] 0]:=by rw [← e0,← hp,qN]
 obtain ⟨H1,e1⟩:∃ K,ql H0 p [.int .u64 (x:Nat),.vsl nl (zg l) l.length] = K:=⟨_,rfl⟩;have hqp0:q < p:=hp ▸ qt hq;have x1:Ext [] H H1:=⟨by rw [← e1,kN];exact x0.len,fun i hi _=>by rw [← e1,qZ (by omega)];exact x0.out i hi (by simp)⟩;have Jf:=x1.get jL (by simp);have vx:qe H1 p = some [.int .u64 (x:Nat),.vsl nl (zg l) l.length]:=by rw [← e1];exact qV (qt hp0)
 obtain ⟨H2,e2⟩:∃ K,ql H1 q [d,.int .u64 (x:Nat),.int .u64 (c:Nat)] = K:=⟨_,rfl⟩;have hqp:q < p:=hp ▸ qt hq;have X7:qe H2 q = some [d,.int .u64 (x:Nat),.int .u64 (c:Nat)]:=by rw [← e2];exact qV (qt Jf)
 have J9:qe H2 p = some [.int .u64 (x:Nat),.vsl nl (zg l) l.length]:=by rw [← e2,qZ (by omega)];exact vx
 obtain ⟨T,eT⟩:∃ K,ql H2 q [d,.int .u64 (x:Nat),.int .u64 (a:Nat)] = K:=⟨_,rfl⟩;have hpT:qe T p = some [.int .u64 (x:Nat),.vsl nl (zg l) l.length]:=by rw [← eT,qZ (by omega)];exact J9
 refine ⟨T,zt Tryz.func98 rfl ⟨rfl,rfl⟩ ?_,?_,?_⟩
 ·simp only [zP] at hv ⊢;simp [-qe,-ql,-qo,Tryz.f98,jL,hac',hv,hp,e0,hp0,e1,Jf,vx,e2,X7,eT,hpT]
 ·rw [← eT];exact qV (qt X7)
 ·refine (x1.mono (M:=[q]) fun i hi=>by simp at hi).trans (M:=[q]) ?_ (NewL.refl _ _);exact (e2 ▸ Ext.set H1 q _:Ext [q] H1 H2).trans (eT ▸ Ext.set H2 q _:Ext [q] H2 T) (NewL.refl _ _)
def qbb (l:List Nat):D:=.vsl (decide (l = [])) (zg l) l.length
def qbp (b:List UInt8) (h:HdP):List Nat × Nat:=qcr b h.siz h.ents (b.length+1) [] h.arr 0
theorem qsY (h:HdP):(Enc.cells h).drop 78 = .int .u64 (h.arr:Nat) :: (Enc.cells h).drop 79:=h.dn (i:=11) (by omega)
theorem qsX (h:HdP):(Enc.cells h).drop 75 = .int .u64 (h.ents:Nat) :: (Enc.cells h).drop 76:=h.dn (i:=8) (by omega)
theorem qb0 {l r:List D} {i:Nat} {x:D} (h:l.drop i = x :: r) (hi:i < l.length):l[i] = x:=by
 have:=congrArg (fun l=>l[0]?) h;simp only [ke,Nat.add_zero,Qh] at this;exact (List.getElem?_eq_some_iff.1 this).2
structure LstI (b:List UInt8) (H:qd) (out:List Nat) (a c:Nat):Prop where
 ex:∃ d L,qe H 0 = some (JZ d a c)∧RowA H 1 d (zg out) L∧0 ∉ L∧(out = []→d = .vsl true [] 0)
 len:out.length≤out.getLastD 0
 last:out.getLastD 0≤b.length
theorem qfv {b:List UInt8} {H:qd} {d:D} {L:List Nat} {out:List Nat} (hrow:RowA H 1 d (zg out) L) (qQ:out = []→d = .vsl true [] 0) (C:Int):vB true 0 H (.tup [d,.int .i64 C]) = some (.tup [qbb out,.int .i64 C],[]):=by
 by_cases h0:out = []
 ·rw [qQ h0,h0];simp [qbb,vB,Ys]
 ·obtain ⟨r,n,rfl,h2,h3,rfl⟩:=hrow.own (by intro h;have h':=congrArg List.length h;rw [Yw,jR] at h';exact h0 (List.length_eq_zero_iff.1 h'));have:n = out.length:=by rw [Yw] at h2;omega
  subst this;simp [-qe,qbb,vB,Ys,h3,h0]
set_option maxHeartbeats 2000000 in
set_option maxRecDepth 8000 in
theorem qu1 [MaxL] (b:Sl UInt8) (h:HdP) (hl:b.l.length≤1000000) (he:h.ents < 18446744073709551616) (ha:h.arr < 18446744073709551616) :
  call cx 63 [.vptr (zP b h)] [] = some (.tup [qbb (qbp b.l h).1,.int .i64 ((qbp b.l h).2:Nat)],[]):=by
 have hhd:=qg6 b h;have zy:=qok b h hl;obtain ⟨R,hR⟩:∃ R,qbp b.l h = R:=⟨_,rfl⟩;obtain ⟨most,hm⟩:∃ m,h.ents = m:=⟨_,rfl⟩;rw [hR];refine qA Tryz.func63 rfl ⟨rfl,rfl⟩ ?_;have h1:=qb0 (qsY h) (by simp);have h2:=qb0 (qsX h) (by simp);rw [hm] at h2 he;have hR0:qcr b.l h.siz most (b.l.length+1) [] h.arr 0 = R:=by rw [← hm];exact hR
 obtain ⟨V,hV⟩:∃ V,zP b h = V:=⟨_,rfl⟩;rw [hV] at hhd zy ⊢;have harr:=fun {H:qd} {q:Nat} {d:D} {a c:Nat} (hq:qe H q = some (JZ d a c))=>qoY hq b h hl;rw [hV] at harr;simp [Tryz.f63,hhd,h1,h2];refine Run.loopThen (fun (n:Nat) e H=>∃ (out:List Nat) (a c:Nat),LstI b.l H out a c∧a < 18446744073709551616∧c≤b.l.length∧b.l.length < n+c∧qcr b.l h.siz most n out a c = R∧qg e 0 = some (.vptr V)∧qg e 4 = some (.int .u64 (most:Nat))∧qg e 5 = some (.optr 0 3 0)) (fun n=>n) (b.l.length+1) ?_ ?_
 ·refine ⟨[],h.arr,0,⟨⟨.vsl true [] 0,[],?_,RowA.nil _ _,by simp,fun _=>rfl⟩,by simp,by simp⟩,ha,by omega,by omega,hR0,?_⟩
  ·simp [JZ,qe]
  ·simp
 rintro n e H ⟨out,a,c,hI,hla,qY,hfu,hE,k0,k4,k5⟩;obtain ⟨d,L,hq,hrow,hnL,qQ⟩:=hI.ex;have QQ:=hq;simp only [JZ] at QQ;have hol:out.length≤b.l.length:=jA hI.len hI.last
 have kG:zj Tryz.prog 91 d = some (.int .i64 out.length):=by
  rcases hrow with ⟨rfl,hcs,rfl⟩ | ⟨r,n,rfl,h2,h3,rfl⟩
  ·have:out.length = 0:=(by have:=congrArg List.length hcs;rw [Yw] at this;exact this);rw [this];simp
  ·have:n = out.length:=(by rw [Yw] at h2;omega);subst this;simp
 have km:IntKind.u64.wrap (out.length:Int) = (out.length:Int):=by rw [qF];omega
 obtain ⟨n,rfl⟩:∃ m,n = m+1:=⟨n - 1,by omega⟩;rw [qcr] at hE;have hpk:=qfv (b:=b.l) hrow qQ;by_cases c1:most≤out.length
 ·rw [if_pos c1] at hE;have c1':¬ (out.length:Int) < (most:Int):=by omega
  subst hE;simp [-qe,-zj,k0,k4,k5,QQ,kG,km,c1',-vB];exact hpk _
 rw [if_neg c1] at hE;have c1':(out.length:Int) < (most:Int):=by omega
 have Vj:=zy a;by_cases c2:Ky b.l a = true
 ·rw [if_pos c2] at hE;rw [c2] at Vj;subst hE;simp [-qe,-zj,k0,k4,k5,QQ,kG,km,c1',Vj,-vB];exact hpk _
 rw [if_neg c2] at hE;have c2':Ky b.l a = false:=by simpa using c2
 rw [c2'] at Vj;by_cases c3:a≤c
 ·rw [if_pos c3] at hE;subst hE;have c3':(a:Int)≤(c:Int):=by omega
  have hla:call cx 98 [.optr 0 3 0,.vptr V] H = some (.tup [.vsl true [] 0,.int .i64 12],H):=by
   refine zt Tryz.func98 rfl ⟨rfl,rfl⟩ ?_;simp [-qe,Tryz.f98,QQ,c3']
  simp [-qe,-zj,k0,k4,k5,QQ,kG,km,c1',Vj,hla,-vB];exact hpk _
 rw [if_neg c3] at hE;obtain ⟨T,hla2,X6,xT⟩:=harr hq hla (by omega);have hqT':=X6;simp only [JZ] at hqT';have hrT:RowA T 1 d (zg out) L:=hrow.ext xT fun i hi hc=>hnL (List.mem_singleton.1 hc ▸ hi);have hpk2:=qfv (b:=b.l) hrT qQ;by_cases c4:kb b.l h.siz a≠0
 ·rw [if_pos c4] at hE;have c4':(((kb b.l h.siz a:Nat):Int) != 0) = true:=by simp only [bne_iff_ne,ne_eq];omega
  subst hE;generalize kb b.l h.siz a = C at *;generalize decide (¬ C = 0) = nl at *;simp [-qe,-zj,k0,k4,k5,QQ,kG,km,c1',Vj,hla2,c4',hqT',-vB];exact hpk2 _
 rw [if_neg c4] at hE;have c4':kb b.l h.siz a = 0:=by omega
 have hx:qb1 b.l h.siz a = (vq b.l a).headD 0:=by unfold qb1;rw [if_pos c4']
 have hL:qac b.l h.siz a = (vq b.l a).tail:=by unfold qac;rw [if_pos c4']
 have zq:decide (¬ kb b.l h.siz a = 0) = false:=by simp [c4']
 rw [hL,zq,c4'] at hla2;rw [hx] at X6
 have Xz:(vq b.l a).headD 0 < 18446744073709551616:=by
  cases hh:vq b.l a with
  | nil=>simp
  | cons y r=>exact qik (l:=QW b.l a) (by show y∈vq b.l a;rw [hh];simp)
 have XD:∀ y,y∈(vq b.l a).tail→y < 18446744073709551616:=fun y hy=>qik (l:=QW b.l a) (List.mem_of_mem_tail hy);obtain ⟨x,hxx⟩:∃ x,(vq b.l a).headD 0 = x:=⟨_,rfl⟩;obtain ⟨l,Jh⟩:∃ l,(vq b.l a).tail = l:=⟨_,rfl⟩;obtain ⟨IR,hIR⟩:∃ r,qbf b.l most l out = r:=⟨_,rfl⟩;rw [hxx] at X6 Xz hE;rw [Jh] at hla2 XD hE;rw [hIR] at hE;have hla3:call cx 98 [.optr 0 3 0,.vptr V] H = some (.tup [.vsl false (zg l) l.length,.int .i64 0],T):=hla2
 have vI:a < b.l.length:=by
  unfold Ky at c2';simp at c2';omega
 have hlen:l.length≤1000000:=by
  have h0:(vq b.l a).length≤1000000:=by
   unfold vq;rw [qil];have:(QW b.l a).length≤b.l.length:=(by unfold QW;simp;omega);omega
  rw [← Jh,List.length_tail];omega
 have XL:zj Tryz.prog 91 (.vsl false (zg l) l.length) = some (.int .i64 l.length):=by simp
 simp [-qe,-zj,k0,k4,k5,QQ,kG,XL,km,c1',Vj,hla3,-vB];refine Run.loopThen (fun (k:Nat) e H=>∃ (out:List Nat),LstI b.l H out x a∧k≤l.length∧qbf b.l most (l.drop k) out = IR∧qg e 0 = some (.vptr V)∧qg e 4 = some (.int .u64 (most:Nat))∧qg e 5 = some (.optr 0 3 0)∧qg e 40 = some (.vsl false (zg l) l.length)∧qg e 41 = some (.int .i64 l.length)∧qg e 42 = some (.int .i64 k)) (fun k=>l.length - k) 0 ?_ ?_
 ·refine ⟨out,⟨⟨d,L,X6,hrT,hnL,qQ⟩,hI.len,hI.last⟩,by omega,hIR,?_⟩;simp
 clear hq hrow hnL qQ QQ kG km hol c1' hI Vj hla2 hla3 X6 hqT' hrT hpk hpk2 xT k0 k4 k5 c1;rintro k e H ⟨out',hI,hk,hD,k0,k4,k5,k40,k41,k42⟩;obtain ⟨d,L,hq,hrow,hnL,qQ⟩:=hI.ex;have QQ:=hq;simp only [JZ] at QQ;have hol:out'.length≤b.l.length:=jA hI.len hI.last
 have kG:zj Tryz.prog 91 d = some (.int .i64 out'.length):=by
  rcases hrow with ⟨rfl,hcs,rfl⟩ | ⟨r,n,rfl,h2,h3,rfl⟩
  ·have:out'.length = 0:=(by have:=congrArg List.length hcs;rw [Yw] at this;exact this);rw [this];simp
  ·have:n = out'.length:=(by rw [Yw] at h2;omega);subst this;simp
 have km:IntKind.u64.wrap (out'.length:Int) = (out'.length:Int):=by rw [qF];omega
 have hpk:=qfv (b:=b.l) hrow qQ;by_cases qi:k < l.length
 rotate_left
 ·have qq:¬ (k:Int) < (l.length:Int):=by omega
  rw [JS (by omega),qbf] at hD;subst hD;simp [-qe,-zj,k0,k4,k5,k40,k41,k42,qq,-vB];exact ⟨n,by omega,out',x,a,hI,Xz,by omega,by omega,hE⟩
 have qq:(k:Int) < (l.length:Int):=by omega
 have zC:(zg l).drop k = .int .u64 (l[k]:Nat) :: zg (l.drop (k+1)):=by
  unfold zg;rw [← List.map_drop,vR qi];rfl
 have zB:IntKind.i64.wrap ((k:Int)+1) = ((k+1:Nat):Int):=by rw [wrap_i64] <;> omega
 have ZA:=XD _ (vQ qi);rw [vR qi,qbf] at hD;generalize l[k] = y at *;have Vj:=zy y;by_cases d1:out'.length = most
 ·rw [if_pos d1] at hD;subst hD;subst d1;simp [-qe,-zj,k0,k4,k5,k40,k41,k42,qq,zC,QQ,kG,km,-vB];exact ⟨n,by omega,out',x,a,hI,Xz,by omega,by omega,hE⟩
 rw [if_neg d1] at hD;have d1':¬ (out'.length:Int) = (most:Int):=by omega
 by_cases d2:Ky b.l y = true
 ·rw [if_pos d2] at hD;rw [d2] at Vj;subst hD;subst hE;simp [-qe,-zj,k0,k4,k5,k40,k41,k42,qq,zC,QQ,kG,km,d1',Vj,-vB];exact hpk _
 rw [if_neg d2] at hD;have d2':Ky b.l y = false:=by simpa using d2
 rw [d2'] at Vj;obtain ⟨T2,hit,xT2,hTE,hTT⟩:=qsq hq hrow hnL y (by omega);by_cases d3:0 < out'.length∧y≤out'.getLastD 0
 ·rw [if_pos d3] at hD hit;subst hD;subst hE;have hTE:=hTE d3;subst hTE;simp [-qe,-zj,k0,k4,k5,k40,k41,k42,qq,zC,QQ,kG,km,d1',Vj,hit,-vB];exact hpk _
 ·rw [if_neg d3] at hD hit;obtain ⟨d',L',jL,hr2,jO,hnw⟩:=hTT d3
  have hy:1≤y∧y < b.l.length:=by
   unfold Ky at d2';simp at d2';omega
  have VB:(out' ++ [y]).getLastD 0 = y:=by simp
  have hI2:LstI b.l T2 (out' ++ [y]) x a:=⟨⟨d',L',jL,hr2,jO,by simp⟩,by rw [VB,qX,List.length_singleton];have:=hI.len;omega,by rw [VB];omega⟩;simp [-qe,-zj,k0,k4,k5,k40,k41,k42,qq,zC,QQ,kG,km,d1',Vj,hit,zB,-vB];exact ⟨k+1,by omega,out' ++ [y],hI2,by omega,hD,by omega⟩
theorem qdH [MaxL] (b:Sl UInt8) (hl:b.l.length≤1000000) (a:Nat) (ha:a+4≤b.l.length) {x:Int} (hx:x = a):call cx 176 [.int .i64 x,.vptr [(.vsl b.nil (qf b.l) b.l.length)]] [] = some (.int .u32 (ZX b.l a:Nat),[]):=by
 have hg:=qoS b a ha (by omega) hx;refine qA Tryz.func176 rfl ⟨rfl,rfl⟩ ?_;have:=ql9 b.l a;have hw:IntKind.u32.wrap (ZX b.l a:Int) = (ZX b.l a:Int):=by rw [qaI];omega
 simp [Tryz.f176,hg,hw]
def KX (b:List UInt8):List D:=[.int .u32 (ZX b 8:Nat),.int .u32 (ZX b 12:Nat),.int .i64 ((b.getD 16 0).toNat:Nat)]
def Qt (b:List UInt8) (k:Nat):List D:=(KX b ++ qf ((b.drop 24).take (16 * k))) ++ (qf (List.replicate (64 - 16 * k) 0) ++ (List.replicate 21 (.int .u64 0) ++ [.int .u32 0,.int .u32 0,.int .u64 0]))
theorem qjt (b:List UInt8) (hb:272≤b.length) {k:Nat} (hk:k≤4):(Qt b k).length = 91:=by
 simp [Qt,KX];omega
def hdIds:List D:=[.optr 2 91 3,.optr 2 91 19,.optr 2 91 35,.optr 2 91 51]
def hdNums:List D:=(List.range 21).map fun i=>.optr 2 91 (67+i)
def zN (b:List UInt8) (k:Nat):List D:=(KX b ++ qf ((b.drop 24).take 64) ++ (qy .u64 ((List.range k).map fun i=>kg b (88+8 * i)))) ++ (List.replicate (21 - k) (.int .u64 0) ++ [.int .u32 0,.int .u32 0,.int .u64 0])
theorem qsP [MaxL] {H:qd} {q:Nat} {C:List D} (hq:qe H q = some C) (_hC:C.length = 91):call cx 178 [.optr q 91 0] H = some (.osl H.length 4 0 4 1,qo H [.optr q 91 3,.optr q 91 19,.optr q 91 35,.optr q 91 51]):=by
 refine zt Tryz.func178 rfl ⟨rfl,rfl⟩ ?_;have qi:=qt hq;have qH:¬ H = []:=by intro h;rw [h] at qi;simp at qi
 simp [-qe,-qo,Tryz.f178,qH]
set_option maxHeartbeats 2000000 in
set_option maxRecDepth 8000 in
theorem qsN [MaxL] {H:qd} {q:Nat} {C:List D} (hq:qe H q = some C) (_hC:C.length = 91):call cx 179 [.optr q 91 0] H = some (.osl H.length 21 0 21 1,qo H ((List.range 21).map fun i=>.optr q 91 (67+i))):=by
 refine zt Tryz.func179 rfl ⟨rfl,rfl⟩ ?_;have qi:=qt hq;have qH:¬ H = []:=by intro h;rw [h] at qi;simp at qi
 have hL:((List.range 21).map fun i=>D.optr q 91 (67+i)) = [.optr q 91 67,.optr q 91 68,.optr q 91 69,.optr q 91 70,.optr q 91 71,.optr q 91 72,.optr q 91 73,.optr q 91 74,.optr q 91 75,.optr q 91 76,.optr q 91 77,.optr q 91 78,.optr q 91 79,.optr q 91 80,.optr q 91 81,.optr q 91 82,.optr q 91 83,.optr q 91 84,.optr q 91 85,.optr q 91 86,.optr q 91 87]:=rfl;rw [hL];simp [-qe,-qo,Tryz.f179,qH]
def qf6:List D:=.int .u32 0 :: .int .u32 0 :: .int .i64 0 :: (qf (List.replicate 64 0) ++ (List.replicate 21 (.int .u64 0) ++ [.int .u32 0,.int .u32 0,.int .u64 0]))
theorem qte {k:Nat} (h:k < 4):hdIds.drop k = .optr 2 91 (3+16 * k) :: hdIds.drop (k+1):=by
 match k,h with
 | 0,_=>rfl
 | 1,_=>rfl
 | 2,_=>rfl
 | 3,_=>rfl
theorem qtd {k:Nat} (h:k < 21):hdNums.drop k = .optr 2 91 (67+k) :: hdNums.drop (k+1):=by
 unfold hdNums;rw [← List.map_drop,vR (by simpa using h)];simp
theorem qhj {A B C B':List D} {n:Nat} (hA:A.length = n) (h:B.length = B'.length):qC (A ++ (B ++ C)) n B' = A ++ (B' ++ C):=by
 subst hA;unfold qC;rw [List.take_left' rfl,zk,zk];rw [List.drop_of_length_le (by omega),List.drop_of_length_le (show B.length≤A.length+B'.length - A.length by omega),JP,JP,show A.length+B'.length - A.length - B.length = 0 by omega,List.drop_zero,ZT]
theorem qtj (b:List UInt8) (hb:272≤b.length) {k:Nat} (hk:k < 4):qC (Qt b k) (3+16 * k) (qf ((b.drop (24+16 * k)).take 16)) = Qt b (k+1):=by
 have e1:qf (List.replicate (64 - 16 * k) 0) = qf (List.replicate 16 0) ++ qf (List.replicate (64 - 16 * (k+1)) 0):=by
  rw [← qaW,List.replicate_append_replicate];congr 2;omega
 have e2:qf ((b.drop 24).take (16 * (k+1))) = qf ((b.drop 24).take (16 * k)) ++ qf ((b.drop (24+16 * k)).take 16):=by
  rw [← qaW,← kA];congr 1;rw [show 16 * (k+1) = 16 * k+16 by omega,List.take_add]
 unfold Qt;rw [e1,e2,ZT (qf (List.replicate 16 0)),qhj]
 ·simp only [ZT]
 ·simp [KX];omega
 ·simp;omega
theorem qth (b:List UInt8) (hb:272≤b.length) {k:Nat} (hk:k≤21):(zN b k).length = 91:=by
 simp [zN,KX];omega
theorem qtk (b:List UInt8):Qt b 4 = zN b 0:=by
 simp [Qt,zN,qy,qf]
theorem qtg (b:List UInt8) (hb:272≤b.length) {k:Nat} (hk:k < 21):qC (zN b k) (67+k) [.int .u64 (kg b (88+8 * k):Nat)] = zN b (k+1):=by
 have e1:List.replicate (21 - k) (D.int .u64 0) = [D.int .u64 0] ++ List.replicate (21 - (k+1)) (D.int .u64 0):=by
  rw [show 21 - k = (21 - (k+1))+1 by omega,qai];rfl
 have e2:qy .u64 ((List.range (k+1)).map fun i=>kg b (88+8 * i)) = qy .u64 ((List.range k).map fun i=>kg b (88+8 * i)) ++ [.int .u64 (kg b (88+8 * k):Nat)]:=by
  rw [List.range_succ,List.map_append,qfq];rfl
 unfold zN;rw [e1,e2,ZT [D.int .u64 0],qhj]
 ·simp only [ZT]
 ·simp [KX];omega
 ·rfl
theorem qti (b:List UInt8) (hb:272≤b.length):∃ PP,zN b 21 = PP ++ [.int .u32 0,.int .u32 0,.int .u64 0]∧PP.length = 88∧Enc.cells (jc b) = PP ++ [.int .u32 (ZX b 256:Nat),.int .u32 (ZX b 260:Nat),.int .u64 (kg b 264:Nat)]:=by
 refine ⟨KX b ++ qf ((b.drop 24).take 64) ++ (qy .u64 ((List.range 21).map fun i=>kg b (88+8 * i))),by simp [zN],by simp [KX];omega,?_⟩
 have e:qf ((b.drop 24).take 64) = qf (jc b).file.l ++ (qf (jc b).machine.l ++ (qf (jc b).boot.l ++ qf (jc b).seq.l)):=by
  simp only [jc];rw [qd7 (by omega),qd7 (by omega),qd7 (by omega),qd7 (by omega),← qaW,← qaW,← qaW];congr 1;rw [show (64:Nat) = 16+(16+(16+16)) by rfl,List.take_add,List.take_add,List.take_add];simp only [kA]
 rw [e,HdP.cells];simp only [KX,ZT,Jx,JP];rfl
set_option maxHeartbeats 4000000 in
set_option maxRecDepth 8000 in
theorem qn3 [MaxL] (b:Sl UInt8) (hl:b.l.length≤1000000) (hb:272≤b.l.length):call cx 140 [(.vsl b.nil (qf b.l) b.l.length)] [] = some (.agg (Enc.cells (jc b.l)),[]):=by
 have h8:=qdH b hl 8 (by omega) (x:=8) rfl;have jV:=qdH b hl 12 (by omega) (x:=12) rfl;have qQ:b.nil = false:=Sl.nn (i:=0) (by omega);rw [qQ] at h8 jV;refine qA Tryz.func140 rfl ⟨rfl,rfl⟩ ?_;have q1:(16:Int) < (b.l.length:Int):=by omega
 have h16:16 < b.l.length:=by omega
 have o1:=jK h16;have hw16:IntKind.i64.wrap ((b.l[16]).toNat:Int) = ((b.l[16]).toNat:Int):=by have:=b.l[16].toNat_lt;rw [wrap_i64];omega
 simp [Tryz.f140,qQ,q1,o1,h8,jV,hw16];rw [qsP rfl rfl];simp;refine Run.loopThen (fun (k:Nat) e H=>k≤4∧(∃ Z:List D,Z.length = 91∧H = [some [(.vsl b.nil (qf b.l) b.l.length)],some Z,some (Qt b.l k),some hdIds])∧qg e 1 = some (.optr 0 1 0)∧qg e 2 = some (.optr 1 91 0)∧qg e 3 = some (.optr 2 91 0)∧qg e 4 = some (.fn 176 [.optr 0 1 0])∧qg e 5 = some (.int .i64 (24+16 * (k:Int)))∧qg e 22 = some (.osl 3 4 0 4 1)∧qg e 23 = some (.int .i64 4)∧qg e 24 = some (.int .i64 k)) (fun k=>4 - k) 0 ?_ ?_
 ·refine ⟨by omega,⟨qf6,by simp [qf6],?_⟩,?_⟩
  ·simp [qQ,qf6,Qt,KX,hdIds,qf,List.replicate,h16]
  ·simp
 rintro k e H ⟨hk,⟨Z,hZ,rfl⟩,k1,k2,k3,k4,k5,k22,k23,k24⟩;by_cases qi:k < 4
 ·have qq:(k:Int) < 4:=by omega
  have hd:=qte qi;have Vf:=qtj b.l hb qi;have hlen:=qjt b.l hb (k:=k) (by omega);have zB:IntKind.i64.wrap ((k:Int)+1) = ((k+1:Nat):Int):=by rw [wrap_i64] <;> omega
  have QR:hdIds.length = 4:=rfl;have c1:3+16 * k≤75:=by omega
  have c2:(0:Int)≤24+16 * (k:Int)∧24+16 * (k:Int)≤(b.l.length:Int):=by omega
  have n2:(24+16 * (k:Int)).toNat = 24+16 * k:=by omega
  simp [k1,k2,k3,k4,k5,k22,k23,k24,qq,hd,QR,qQ,hlen,c1,c2,n2];have hmin:min (b.l.length - (24+16 * k)) 16 = 16:=by omega
  have hlen16:(qf ((b.l.drop (24+16 * k)).take 16)).length = 16:=by simp;omega
  unfold qC at Vf;rw [hlen16] at Vf
  have vD:List.take 16 (List.take (b.l.length - (24+16 * k)) (List.drop (24+16 * k) (qf b.l))) = qf ((b.l.drop (24+16 * k)).take 16):=by
   rw [List.take_take,Nat.min_eq_left (by omega)];simp [qf,List.map_take,List.map_drop]
  rw [hmin,vD];have zp:IntKind.i64.wrap (24+16 * (k:Int)+((16:Nat):Int)) = 24+16 * ((k+1:Nat):Int):=by rw [wrap_i64] <;> omega
  exact ⟨k+1,by omega,by omega,⟨Z,hZ,rfl,by simpa only [ZT] using Vf⟩,zp,zB⟩
 ·have qq:¬ (k:Int) < 4:=by omega
  have hk4:k = 4:=by omega
  subst hk4;simp [k1,k2,k3,k4,k5,k22,k23,k24,qQ];rw [qsN (C:=Qt b.l 4) rfl (qjt b.l hb (by omega)),qtk b.l];simp;clear k1 k2 k3 k4 k5 k22 k23 k24 qq qi hk;refine Run.loopThen (fun (k:Nat) e H=>k≤21∧H = [some [(.vsl b.nil (qf b.l) b.l.length)],some Z,some (zN b.l k),some hdIds,some hdNums]∧qg e 1 = some (.optr 0 1 0)∧qg e 2 = some (.optr 1 91 0)∧qg e 3 = some (.optr 2 91 0)∧qg e 4 = some (.fn 176 [.optr 0 1 0])∧qg e 5 = some (.int .i64 (88+8 * (k:Int)))∧qg e 38 = some (.osl 4 21 0 21 1)∧qg e 39 = some (.int .i64 21)∧qg e 40 = some (.int .i64 k)) (fun k=>21 - k) 0 ?_ ?_
  ·refine ⟨by omega,?_,?_⟩
   ·rw [qQ];rfl
   ·simp
  rintro k e H ⟨hk,rfl,k1,k2,k3,k4,k5,k38,k39,k40⟩;by_cases qi:k < 21
  ·have qq:(k:Int) < 21:=(by omega);have hd:=qtd qi;have QR:hdNums.length = 21:=rfl;have Vf:=qtg b.l hb qi;have hlen:=qth b.l hb (k:=k) (by omega);have zB:IntKind.i64.wrap ((k:Int)+1) = ((k+1:Nat):Int):=(by rw [wrap_i64] <;> omega);have zp:IntKind.i64.wrap (88+8 * (k:Int)+8) = 88+8 * ((k+1:Nat):Int):=(by rw [wrap_i64] <;> omega);have hg:=qdw b (88+8 * k) (by omega) (by omega) (x:=88+8 * (k:Int)) (by omega);have zx:67+k+1≤91:=(by omega);rw [qQ] at hg;simp [k1,k2,k3,k4,k5,k38,k39,k40,qq,hd,QR,qQ,hlen,hg,zB,zp,zx];unfold qC at Vf;exact ⟨k+1,by omega,by omega,by simpa only [ZT,Jx,JP,List.length_singleton] using Vf,by omega,by omega⟩
  ·have qq:¬ (k:Int) < 21:=(by omega);have hk21:k = 21:=(by omega);subst hk21;obtain ⟨PP,hP,hPl,hPe⟩:=qti b.l hb;rw [hP];have h4:=qdH b hl 256 (by omega) (x:=256) rfl;have h5:=qdH b hl 260 (by omega) (x:=260) rfl;have hg:=qdw b 264 (by omega) (by omega) (x:=264) rfl;rw [qQ] at h4 h5 hg;simp [k1,k2,k3,k4,k5,k38,k39,k40,qQ,hPl,h4,h5,hg,kR,zk,List.drop_of_length_le,qP,hZ,hPe];have hfr:=Enc.free (jc b.l);rw [hPe,List.all_append,zL] at hfr;have hPi:(∀ x,x∈PP→idFree x = true) = True:=eq_true (List.all_eq_true.1 hfr.1);have hPc:∀ n,(∀ x,x∈PP→closed n x = true) = True:=fun n=>eq_true fun x hx=>qbt n x (List.all_eq_true.1 hfr.1 x hx);have hPL:idFree.idFreeL PP = true:=(by rw [kO];exact hfr.1);simp [hPc,hPL,hPl,qP]
theorem qvS [MaxL] (a b:Sl UInt8) (_:a.l.length < 1000000) (_:b.l.length < 1000000):call cx 175 [(.vsl a.nil (qf a.l) a.l.length),(.vsl b.nil (qf b.l) b.l.length)] [] = some (.bool (a.l == b.l),[]):=by
 refine qA Tryz.func175 rfl ⟨rfl,rfl⟩ ?_;have t1:List.take a.l.length (qf a.l) = qf a.l:=qP (by simp);have t2:List.take b.l.length (qf b.l) = qf b.l:=qP (by simp);simp [Tryz.f175]
theorem qvP [MaxL] (s:Sl UInt8) (p:List UInt8) (hs:s.l.length≤1000000) (hp:p.length < 1000000) (h1:1≤p.length):call cx 139 [(.vsl s.nil (qf s.l) s.l.length),.vsl false (qf p) p.length] [] = some (.bool (s.l.take p.length == p),[]):=by
 refine qA Tryz.func139 rfl ⟨rfl,rfl⟩ ?_;by_cases j7:p.length≤s.l.length
 ·have YE:(p.length:Int)≤(s.l.length:Int):=by omega
  have jb:s.nil = false:=Sl.nn (i:=0) (by omega);have he:=qvS (.of (s.l.take p.length)) (.of p) (by simp;omega) hp;simp only [Sl.of_l,Sl.of_nil] at he;have t1:List.take p.length (qf s.l) = qf (s.l.take p.length):=qfj _ _;have l1:(s.l.take p.length).length = p.length:=by simp;omega
  rw [l1] at he;simp [Tryz.f139,YE,jb,t1,he]
 ·have YE:¬ (p.length:Int)≤(s.l.length:Int):=by omega
  have qH:(s.l.take p.length == p) = false:=by
   refine beq_eq_false_iff_ne.2 fun e=>?_;have:=congrArg List.length e;simp at this;omega
  rw [qH];simp [Tryz.f139,YE]
theorem qjs (h:HdP):(Enc.cells h).drop 68 = .int .u64 (h.arena:Nat) :: (Enc.cells h).drop 69:=h.dn (i:=1) (by omega)
theorem qjn [MaxL] (h:HdP) (h0:h.g 0 < 18446744073709551616) (h1:h.g 1 < 18446744073709551616):call cx 96 [.agg (Enc.cells h)] [] = some (.tup [.int .u64 (h.endN:Nat),.bool h.endC],[]):=by
 refine qA Tryz.func96 rfl ⟨rfl,rfl⟩ ?_;have e0:=qb0 (qcf h) (by simp);have e1:=qb0 (qjs h) (by simp);have e0':=qcf h;have e1':=qjs h;rw [show h.siz = h.g 0 from rfl] at e0 e0';rw [show h.arena = h.g 1 from rfl] at e1 e1';unfold HdP.endN HdP.endC;generalize h.g 0 = a at *;generalize h.g 1 = c at *;by_cases hc:a+c < 18446744073709551616
 ·have hw:IntKind.u64.wrap ((a:Int)+(c:Int)) = (a:Int)+(c:Int):=by rw [qF];omega
  have hn:¬ (a:Int)+(c:Int) < (a:Int):=by omega
  simp [Tryz.f96,e0',e1',hw,hn,hc]
 ·have hw:IntKind.u64.wrap ((a:Int)+(c:Int)) = (a:Int)+(c:Int) - 18446744073709551616:=by
   simp only [IntKind.wrap,IntKind.signed,IntKind.bits];simp;omega
  have hn:(a:Int)+(c:Int) - 18446744073709551616 < (a:Int):=by omega
  simp [Tryz.f96,e0',e1',hw,hn,hc]
set_option maxHeartbeats 1000000 in
theorem qje [MaxL] (h:HdP) (h0:h.g 0 < 18446744073709551616) (a size till:Nat) (ha:a < 18446744073709551616) (hs:size < 18446744073709551616) (ht:till < 18446744073709551616) :
  call cx 141 [.agg (Enc.cells h),.int .u64 a,.int .u64 size,.int .u64 till] [] = some (.int .i64 (qap (h.g 0) a size till:Nat),[]):=by
 refine qA Tryz.func141 rfl ⟨rfl,rfl⟩ ?_;have e0:=qb0 (qcf h) (by simp);have e0':=qcf h;rw [show h.siz = h.g 0 from rfl] at e0 e0';unfold qap;generalize h.g 0 = f at *;have r8:(a:Int).tmod 8 = ((a % 8:Nat):Int):=rfl;have r16:(size:Int).tmod 16 = ((size % 16:Nat):Int):=rfl;by_cases c1:a % 8≠0
 ·have c1':((a:Int).tmod 8 != 0) = true:=by rw [r8];simp only [bne_iff_ne,ne_eq];omega
  rw [if_pos c1];simp [Tryz.f141,c1']
 have c1':((a:Int).tmod 8 != 0) = false:=by rw [r8];simp only [bne_eq_false_iff_eq];omega
 rw [if_neg c1];by_cases c2:size = 0
 ·rw [if_pos (.inl c2)];subst c2;simp [Tryz.f141,c1']
 have c2':¬ (size:Int) = 0:=by omega
 by_cases c3:size % 16≠0
 ·rw [if_pos (.inr c3)];have c3':((size:Int).tmod 16 != 0) = true:=by rw [r16];simp only [bne_iff_ne,ne_eq];omega
  simp [Tryz.f141,c1',c2,c3']
 rw [if_neg (by omega)];have c3':((size:Int).tmod 16 != 0) = false:=by rw [r16];simp only [bne_eq_false_iff_eq];omega
 by_cases c4:a < f
 ·rw [if_pos (.inl c4)];have c4':(a:Int) < (f:Int):=by omega
  simp [Tryz.f141,c1',c2,c3',e0',c4']
 have c4':¬ (a:Int) < (f:Int):=by omega
 have KI:IntKind.u64.wrap ((a:Int) - (f:Int)) = (a:Int) - (f:Int):=by rw [qF];omega
 by_cases c5:a - f < 16
 ·rw [if_pos (.inr (.inl c5))];have c5':(a:Int) - (f:Int) < 16:=by omega
  simp [Tryz.f141,c1',c2,c3',e0',c4',KI,c5']
 have c5':¬ (a:Int) - (f:Int) < 16:=by omega
 by_cases c6:till < a
 ·rw [if_pos (.inr (.inr (.inl c6)))];have c6':(till:Int) < (a:Int):=by omega
  simp [Tryz.f141,c1',c2,c3',e0',c4',KI,c5',c6']
 have c6':¬ (till:Int) < (a:Int):=by omega
 have hw6:IntKind.u64.wrap ((till:Int) - (a:Int)) = (till:Int) - (a:Int):=by rw [qF];omega
 by_cases c7:till - a < size
 ·rw [if_pos (.inr (.inr (.inr c7)))];have c7':(till:Int) - (a:Int) < (size:Int):=by omega
  simp [Tryz.f141,c1',c2,c3',e0',c4',KI,c5',c6',hw6,c7']
 ·rw [if_neg (by omega)];have c7':¬ (till:Int) - (a:Int) < (size:Int):=by omega
  simp [Tryz.f141,c1',c2,c3',e0',c4',KI,c5',c6',hw6,c7']
def hdZ:List D:=.int .u32 0 :: .int .u32 0 :: .int .i64 0 :: (qf (List.replicate 64 0) ++ (List.replicate 21 (.int .u64 0) ++ [.int .u32 0,.int .u32 0,.int .u64 0]))
def headD (b:List UInt8):D:=.agg (if j8 b = 0 then Enc.cells (jc b) else hdZ)
theorem qta (h:HdP):(Enc.cells h)[1] = .int .u32 (h.incompat:Nat):=by simp [HdP.cells]
theorem qsZ (h:HdP):(Enc.cells h)[2] = .int .i64 (h.state:Nat):=by simp [HdP.cells]
theorem qbj (h:HdP) (i:Nat) (hi:i < 21) (hh:67+i < (Enc.cells h).length):(Enc.cells h)[67+i] = .int .u64 (h.g i:Nat):=qb0 (h.dn hi) hh
theorem KW {b:List UInt8} {c:Nat} (h:j8 b = c) (h0:c≠0):headD b = .agg hdZ:=by
 unfold headD;rw [h,if_neg h0]
theorem qjo {b:List UInt8} (h:j8 b = 0):headD b = .agg (Enc.cells (jc b)):=by
 unfold headD;rw [if_pos h]
set_option maxHeartbeats 4000000 in
set_option maxRecDepth 8000 in
theorem qsM [MaxL] (b:Sl UInt8) (hl:b.l.length≤1000000):call cx 95 [(.vsl b.nil (qf b.l) b.l.length)] [] = some (.tup [headD b.l,.int .i64 (j8 b.l:Nat)],[]):=by
 have hZ:hdZ = hdZ:=rfl
 conv at hZ=>rhs;simp [hdZ,qf,List.replicate]
 refine qA Tryz.func95 rfl ⟨rfl,rfl⟩ ?_;by_cases c0:b.l.length < 272
 ·have hC:j8 b.l = 22:=by unfold j8;rw [if_pos c0]
  have c0':(b.l.length:Int) < 272:=by omega
  rw [KW hC (by decide),hC,hZ];simp [Tryz.f95,c0']
 have c0':¬ (b.l.length:Int) < 272:=by omega
 have hpf:=qvP b signL (by omega) (by decide) (by decide);by_cases c1:b.l.take 8≠signL
 ·have hC:j8 b.l = 6:=by unfold j8;rw [if_neg c0,if_pos c1]
  have e1:(b.l.take signL.length == signL) = false:=by simp only [beq_eq_false_iff_ne];exact c1
  rw [e1] at hpf;replace hpf:call cx 139 [(.vsl b.nil (qf b.l) b.l.length),.vsl false [.int .u8 76,.int .u8 80,.int .u8 75,.int .u8 83,.int .u8 72,.int .u8 72,.int .u8 82,.int .u8 72] 8] [] = some (.bool false,[]):=hpf;rw [KW hC (by decide),hC,hZ];simp [Tryz.f95,c0',hpf]
 have e1:(b.l.take signL.length == signL) = true:=by simp only [beq_iff_eq];exact Classical.not_not.1 c1
 rw [e1] at hpf;replace hpf:call cx 139 [(.vsl b.nil (qf b.l) b.l.length),.vsl false [.int .u8 76,.int .u8 80,.int .u8 75,.int .u8 83,.int .u8 72,.int .u8 72,.int .u8 82,.int .u8 72] 8] [] = some (.bool true,[]):=hpf;have hC:j8 b.l = KY (jc b.l) b.l.length:=by unfold j8;rw [if_neg c0,if_neg c1]
 have jT:=qn3 b hl (by omega);have XI:=qce b.l;obtain ⟨h,hh⟩:∃ h,jc b.l = h:=⟨_,rfl⟩;rw [hh] at jT hC XI;have zX:=qjn h (XI 0) (XI 1);have i1:=qta h;have i2:=qsZ h;have g0:=qbj h 0 (by omega) (by simp);have g1:=qbj h 1 (by omega) (by simp);have g2:=qbj h 2 (by omega) (by simp);have g3:=qbj h 3 (by omega) (by simp);have g4:=qbj h 4 (by omega) (by simp);have g5:=qbj h 5 (by omega) (by simp);have j1:=h.d1;have j2:=h.d2;have k0:=h.dn (i:=0) (by omega);have k1:=h.dn (i:=1) (by omega);have k2:=h.dn (i:=2) (by omega);have k3:=h.dn (i:=3) (by omega);have k4:=h.dn (i:=4) (by omega);have k5:=h.dn (i:=5) (by omega);simp only [Nat.reduceAdd,Nat.add_zero] at g0 g1 g2 g3 g4 g5 k0 k1 k2 k3 k4 k5;have zJ:h.endN < 18446744073709551616:=by unfold HdP.endN;split <;> omega
 have t1:=qje h (XI 0) (h.g 2) (h.g 3) h.endN (XI 2) (XI 3) zJ;have t2:=qje h (XI 0) (h.g 4) (h.g 5) h.endN (XI 4) (XI 5) zJ;by_cases d1:qb3 .u32 h.incompat 4≠0
 ·have jh:j8 b.l = 7:=by rw [hC];unfold KY;rw [if_pos d1]
  rw [KW jh (by decide),jh,hZ];have d1':(qb3 .u32 h.incompat 4 != 0) = true:=by simp only [bne_iff_ne,ne_eq];exact d1
  simp [Tryz.f95,c0',hpf,jT,zX,j1,d1']
 have d1':(qb3 .u32 h.incompat 4 != 0) = false:=by simp only [bne_eq_false_iff_eq];exact Classical.not_not.1 d1
 by_cases d2:2 < h.state
 ·have jh:j8 b.l = 8:=by rw [hC];unfold KY;rw [if_neg d1,if_pos d2]
  rw [KW jh (by decide),jh,hZ];have d2':(2:Int) < (h.state:Int):=by omega
  simp [Tryz.f95,c0',hpf,jT,zX,j1,d1',j2,d2']
 have d2':¬ (2:Int) < (h.state:Int):=by omega
 have r0:((h.g 0:Nat):Int).tmod 8 = ((h.g 0 % 8:Nat):Int):=rfl;have r1:((h.g 1:Nat):Int).tmod 8 = ((h.g 1 % 8:Nat):Int):=rfl;by_cases d3:h.g 0 < 272∨h.g 0 % 8≠0∨h.g 1 % 8≠0
 ·have jh:j8 b.l = 5:=by rw [hC];unfold KY;rw [if_neg d1,if_neg d2,if_pos d3]
  rw [KW jh (by decide),jh,hZ];by_cases a1:h.g 0 < 272
  ·have a1':((h.g 0:Nat):Int) < 272:=(by omega);simp [Tryz.f95,c0',hpf,jT,zX,j1,d1',j2,d2',k0,a1']
  have a1':¬ ((h.g 0:Nat):Int) < 272:=by omega
  by_cases a2:h.g 0 % 8≠0
  ·have a2':(((h.g 0:Nat):Int).tmod 8 != 0) = true:=(by rw [r0];simp only [bne_iff_ne,ne_eq];omega);simp [Tryz.f95,c0',hpf,jT,zX,j1,d1',j2,d2',k0,a1',a2']
  have a2':(((h.g 0:Nat):Int).tmod 8 != 0) = false:=by rw [r0];simp only [bne_eq_false_iff_eq];omega
  have a3':(((h.g 1:Nat):Int).tmod 8 != 0) = true:=by rw [r1];simp only [bne_iff_ne,ne_eq];omega
  simp [Tryz.f95,c0',hpf,jT,zX,j1,d1',j2,d2',k0,a1',a2',k1,a3']
 have a1':¬ ((h.g 0:Nat):Int) < 272:=by omega
 have a2':(((h.g 0:Nat):Int).tmod 8 != 0) = false:=by rw [r0];simp only [bne_eq_false_iff_eq];omega
 have a3':(((h.g 1:Nat):Int).tmod 8 != 0) = false:=by rw [r1];simp only [bne_eq_false_iff_eq];omega
 have km:IntKind.u64.wrap (b.l.length:Int) = (b.l.length:Int):=by rw [qF];omega
 by_cases d4:h.endC = false
 ·have jh:j8 b.l = 2:=by rw [hC];unfold KY;rw [if_neg d1,if_neg d2,if_neg d3,if_pos (.inl d4)]
  rw [KW jh (by decide),jh,hZ];rw [d4] at zX;simp [Tryz.f95,c0',hpf,jT,zX,j1,d1',j2,d2',k0,a1',a2',k1,a3']
 have d4':h.endC = true:=by simpa using d4
 rw [d4'] at zX;by_cases d5:b.l.length < h.endN
 ·have jh:j8 b.l = 2:=by rw [hC];unfold KY;rw [if_neg d1,if_neg d2,if_neg d3,if_pos (.inr d5)]
  rw [KW jh (by decide),jh,hZ];have d5':(b.l.length:Int) < (h.endN:Int):=by omega
  simp [Tryz.f95,c0',hpf,jT,zX,j1,d1',j2,d2',k0,a1',a2',k1,a3',km,d5']
 have d5':¬ (b.l.length:Int) < (h.endN:Int):=by omega
 have d45:¬ (h.endC = false∨b.l.length < h.endN):=by rintro (h | h);exact d4 h;exact d5 h
 obtain ⟨T1,hT1⟩:∃ T,qap (h.g 0) (h.g 2) (h.g 3) h.endN = T:=⟨_,rfl⟩;obtain ⟨T2,ZE⟩:∃ T,qap (h.g 0) (h.g 4) (h.g 5) h.endN = T:=⟨_,rfl⟩;rw [hT1] at t1;rw [ZE] at t2;by_cases d6:T1≠0
 ·have jh:j8 b.l = T1:=by rw [hC];unfold KY;rw [if_neg d1,if_neg d2,if_neg d3,if_neg d45,hT1,if_pos d6]
  rw [KW jh d6,jh,hZ];have d6':((T1:Int) != 0) = true:=by simp only [bne_iff_ne,ne_eq];omega
  simp [Tryz.f95,c0',hpf,jT,zX,j1,d1',j2,d2',k0,a1',a2',k1,a3',km,d5',k2,k3,t1,d6']
 have d6':T1 = 0:=by omega
 have jh:j8 b.l = T2:=by rw [hC];unfold KY;rw [if_neg d1,if_neg d2,if_neg d3,if_neg d45,hT1,if_neg d6,ZE]
 rw [d6'] at t1;by_cases d7:T2≠0
 ·rw [KW jh d7,jh,hZ];have d7':((T2:Int) != 0) = true:=by simp only [bne_iff_ne,ne_eq];omega
  simp [Tryz.f95,c0',hpf,jT,zX,j1,d1',j2,d2',k0,a1',a2',k1,a3',km,d5',k2,k3,t1,k4,k5,t2,d7']
 ·have d7':T2 = 0:=by omega
  rw [d7'] at jh t2;rw [qjo jh,jh,hh];simp [Tryz.f95,c0',hpf,jT,zX,j1,d1',j2,d2',k0,a1',a2',k1,a3',km,d5',k2,k3,t1,k4,k5,t2]
theorem qkG [MaxL] [TxtC] (s:Sl UInt8) (hn:s.l.length≤140737488355328) :
  call cx 59 [(.vsl s.nil (qf s.l) s.l.length)] [] = if s.nil then some (.vsl true [] 0,[]) else some (.osl 0 s.l.length 0 s.l.length 1,[some (qf s.l)]):=by
 obtain ⟨nil,l,qQ⟩:=s;simp only at hn ⊢;cases nil with
 | true =>
  have hl0:=qQ rfl;subst hl0;rw [if_pos rfl];refine qA Tryz.func59 rfl ⟨rfl,rfl⟩ ?_;simp [Tryz.f59]
 | false =>
  rw [if_neg (by decide)];refine qA Tryz.func59 rfl ⟨rfl,rfl⟩ ?_;simp [Tryz.f59,qw,hn]
def Buf (d:D) (H:qd) (l:List UInt8):Prop:=(d = .vsl true [] 0∧l = []∧H = [])∨(d = .osl 0 l.length 0 l.length 1∧H = [some (qf l)])
def ZW (b:List UInt8):Sl UInt8:=⟨false,b.take (jc b).endN,by simp⟩
def qa2 (b:List UInt8):D:=if j8 b = 0 then .vptr (zP (ZW b) (jc b)) else .nilp
theorem qjp {b:List UInt8} (h:j8 b = 0):(jc b).endC = true∧(jc b).endN≤b.length∧272≤b.length∧272≤(jc b).endN:=by
 unfold j8 at h;split at h
 · omega
 split at h
 · omega
 unfold KY at h;split at h
 · omega
 split at h
 · omega
 split at h
 · omega
 split at h
 · omega
 rename_i h0 h1 h2 h3 h4 h5
 have h6:(jc b).endC = true:=by
  cases hh:(jc b).endC with
  | true=>rfl
  | false=>exact absurd (.inl hh) h5
 refine ⟨h6,by omega,by omega,?_⟩;unfold HdP.endC at h6;unfold HdP.endN;simp at h6;rw [if_pos h6];omega
theorem qgS {k:D→Option (D × List Nat)}:∀ {l:List D},idFree.idFreeL l = true→jJ (fun x=>if idFree x = true then some (x,[]) else k x) l = some (l,[])
 | [],_=>rfl
 | d :: l,h=>by
  simp only [idFree.idFreeL,zL] at h;simp only [jJ,qgS h.2,h.1,if_true,Xm]
theorem qjq:hdZ.length = 91:=rfl
theorem qjr:idFree.idFreeL hdZ = true:=by
 simp [hdZ,idFree,kO]
theorem qtb (n:Nat):(∀ x,x∈hdZ→closed n x = true) = True:=eq_true fun x hx=>qbt n x (List.all_eq_true.1 (by rw [← kO];exact qjr) x hx)
set_option maxHeartbeats 1000000 in
set_option maxRecDepth 8000 in
theorem qwg [MaxL] (b:Sl UInt8) (hl:b.l.length≤1000000):call cx 62 [(.vsl b.nil (qf b.l) b.l.length)] [] = some (.tup [qa2 b.l,.int .i64 (j8 b.l:Nat)],[]):=by
 have hr:=qsM b hl;refine qA Tryz.func62 rfl ⟨rfl,rfl⟩ ?_;by_cases h0:j8 b.l = 0
 ·obtain ⟨h1,h2,h3,h4⟩:=qjp h0;have zX:=qjn (jc b.l) (qce _ _) (qce _ _);have qY:=qkG (ZW b.l) (by simp [ZW];omega);rw [h1] at zX;rw [qjo h0,h0] at hr;have qQ:b.nil = false:=Sl.nn (i:=0) (by omega);rw [qQ] at hr;unfold qa2;rw [if_pos h0,h0];simp only [zP];simp only [ZW,kB,if_false] at qY ⊢;have hvl:(b.l.take (jc b.l).endN).length = (jc b.l).endN:=by simp;omega
  rw [hvl] at qY ⊢;have vD:List.take (jc b.l).endN (qf b.l) = qf (b.l.take (jc b.l).endN):=qfj _ _;generalize (jc b.l).endN = n at *;have n1:(0:Int)≤(n:Int)∧(n:Int)≤(b.l.length:Int):=by omega
  simp [Tryz.f62,qQ,hr,zX,qY,vD,n1,h2,qgS]
 ·have j9:(((j8 b.l:Nat):Int) != 0) = true:=by simp only [bne_iff_ne,ne_eq];omega
  rw [KW rfl h0] at hr;unfold qa2;rw [if_neg h0];generalize j8 b.l = c at *;simp [Tryz.f62,hr,j9,qjq,qjr,qtb]
def ZI (b:List UInt8):List D:=[.vptr (zP (ZW b) (jc b)),qbb (qbp (ZW b).l (jc b)).1,.int .i64 ((qbp (ZW b).l (jc b)).2:Nat),.vsl true [] 0,.bool false]
theorem qry [MaxL] (b:Sl UInt8) (hl:b.l.length≤1000000):call cx 34 [(.vsl b.nil (qf b.l) b.l.length)] [] = if j8 b.l = 0 then some (.tup [.optr 0 5 0,.int .i64 0],[some (ZI b.l)]) else some (.tup [.nilp,.int .i64 (j8 b.l:Nat)],[]):=by
 have ho:=qwg b hl;by_cases h0:j8 b.l = 0
 ·obtain ⟨h1,h2,h3,h4⟩:=qjp h0;have zX:=qu1 (ZW b.l) (jc b.l) (by simp [ZW];omega) (qce b.l 8) (qce b.l 11);have hO:qa2 b.l = .vptr (zP (ZW b.l) (jc b.l)):=by unfold qa2;rw [if_pos h0]
  rw [hO,h0] at ho;rw [if_pos h0];unfold ZI;have hf:idFree.idFreeL (zP (ZW b.l) (jc b.l)) = true:=by simp [zP,idFree.idFreeL,idFree]
  generalize zP (ZW b.l) (jc b.l) = V at *;generalize qbp (ZW b.l).l (jc b.l) = R at *;obtain ⟨nl,hn⟩:∃ nl,decide (R.1 = []) = nl:=⟨_,rfl⟩;unfold qbb at *;rw [hn] at zX ⊢;refine qA Tryz.func34 rfl ⟨rfl,rfl⟩ ?_;simp [Tryz.f34,ho,zX]
 ·have j9:(((j8 b.l:Nat):Int) != 0) = true:=by simp only [bne_iff_ne,ne_eq];omega
  have hO:qa2 b.l = .nilp:=by unfold qa2;rw [if_neg h0]
  rw [hO] at ho;rw [if_neg h0];generalize j8 b.l = c at *;refine qA Tryz.func34 rfl ⟨rfl,rfl⟩ ?_;simp [Tryz.f34,ho,j9]
theorem qiO [MaxL] {H:qd} {q:Nat} {b:List UInt8} (hq:qe H q = some (ZI b)):∃ T,call cx 10 [.optr q 5 0] H = some (.agg (Enc.cells (jc b)),T)∧Ext [] H T:=by
 have hZ:hdZ = hdZ:=rfl
 conv at hZ=>rhs;simp [hdZ,qf,List.replicate]
 have hh:=qg6 (ZW b) (jc b);unfold ZI at hq;generalize zP (ZW b) (jc b) = V at *;obtain ⟨p,hp⟩:∃ p,H.length = p:=⟨_,rfl⟩;obtain ⟨H1,e1⟩:∃ K,qo H hdZ = K:=⟨_,rfl⟩;have x1:Ext [] H H1:=e1 ▸ Ext.new H _;have Jf:=x1.get hq (by simp);have g1:qe H1 p = some hdZ:=by rw [← e1,← hp,qN]
 have hl:=qjq;obtain ⟨C,hC⟩:∃ C,Enc.cells (jc b) = C:=⟨_,rfl⟩;have hCl:C.length = 91:=by rw [← hC];simp
 have hCf:idFree.idFreeL C = true:=by rw [← hC];simp
 have hCs:shift.shiftL p C = C:=qas _ _ hCf;rw [hC] at hh ⊢;obtain ⟨T,eT⟩:∃ K,ql H1 p C = K:=⟨_,rfl⟩;have gT:qe T p = some C:=by rw [← eT];exact qV (qt g1)
 have hCc:∀ n,(∀ x,x∈C→closed n x = true) = True:=fun n=>eq_true fun x hx=>qbt n x (List.all_eq_true.1 (by rw [← kO];exact hCf) x hx);have YL:C ++ List.drop 91 hdZ = C:=by rw [List.drop_of_length_le (by omega),Xm]
 have vD:List.take 91 C = C:=qP (by omega);rw [hZ] at e1;refine ⟨T,zt Tryz.func10 rfl ⟨rfl,rfl⟩ ?_,?_⟩
 ·simp [-qe,-ql,-qo,Tryz.f10,hh,hp,e1,Jf,g1,hCl,hCf,eT,gT,hCc,YL,hl,vD]
 ·exact ⟨by rw [← eT,kN];exact x1.len,fun i hi _=>by rw [← eT,qZ (by omega)];exact x1.out i hi (by simp)⟩
end Go.Ev.S
namespace Go.Ev
open Go Go.Proofs
structure Nd where
 name:List UInt8
 there:Bool
 b:Sl UInt8
 safe:Sl UInt8
structure Fs where
 room:Int
 fuse:Int
 off:Bool
 nodes:List Nd
structure FSv where
 nd:List (Nat × Nat)
 nv:D
 pv:D
 pc:List D
 Ln:List Nat
 Lp:List Nat
def FSv.names (v:FSv) (q:Nat):List Nat:=q :: (v.Ln ++ (v.Lp ++ (v.nd.map (·.1) ++ v.nd.map (·.2))))
def FSv.ptrs (v:FSv):List D:=v.nd.map fun x=>D.optr x.1 3 0
def Nd.cells (n:Nd) (j:Nat):List D:=[.str n.name,.bool n.there,.optr j 2 0]
def Nd.data (n:Nd):List D:=[(.vsl n.b.nil (qf n.b.l) n.b.l.length),(.vsl n.safe.nil (qf n.safe.l) n.safe.l.length)]
def Fs.cells (s:Fs) (v:FSv):List D:=[.int .i64 s.room,.int .i64 s.fuse,.bool s.off,v.nv,v.pv]
structure FSty (f:Nat→Nat) (q:Nat) (v:FSv):Prop where
 root:f q = 0
 row:∀ i,i∈v.Ln→f i = 1
 pend:∀ i,i∈v.Lp→f i = 2
 node:∀ (j:Nat) (x:Nat × Nat),v.nd[j]? = some x→f x.1 = 3+2 * j∧f x.2 = 4+2 * j
structure FSw (H:qd) (q:Nat) (s:Fs) (v:FSv):Prop where
 root:qe H q = some (s.cells v)
 row:RowA H 1 v.nv v.ptrs v.Ln
 pend:RowA H 4 v.pv v.pc v.Lp
 len:v.nd.length = s.nodes.length
 node:∀ (i:Nat) (n:Nd) (x:Nat × Nat),s.nodes[i]? = some n→v.nd[i]? = some x→qe H x.1 = some (n.cells x.2)∧qe H x.2 = some n.data
 ty:∃ f,FSty f q v
def FSAt (H:qd) (q:Nat) (s:Fs) (L:List Nat):Prop:= ∃ v,FSw H q s v∧L = v.names q
theorem FSw.lt {H:qd} {q:Nat} {s:Fs} {v:FSv} (h:FSw H q s v) {i:Nat} (hi:i∈v.names q):i < H.length:=by
 simp only [FSv.names,zA,ji,kI] at hi
 have key:∀ x,x∈v.nd→x.1 < H.length∧x.2 < H.length:=by
  intro x hx;obtain ⟨j,hj⟩:=List.mem_iff_getElem?.1 hx;have zm:j < s.nodes.length:=by rw [← h.len];exact (List.getElem?_eq_some_iff.1 hj).1
  obtain ⟨h1,h2⟩:=h.node j _ x (qU zm) hj;exact ⟨qt h1,qt h2⟩
 rcases hi with rfl | hi | hi | ⟨x,hx,rfl⟩ | ⟨x,hx,rfl⟩
 ·exact qt h.root
 ·exact h.row.lt hi
 ·exact h.pend.lt hi
 ·exact (key x hx).1
 ·exact (key x hx).2
theorem FSAt.lt {H:qd} {q:Nat} {s:Fs} {L:List Nat} (h:FSAt H q s L) {i:Nat} (hi:i∈L):i < H.length:=by
 obtain ⟨v,hv,rfl⟩:=h;exact hv.lt hi
theorem FSw.ext {H T:qd} {q:Nat} {s:Fs} {v:FSv} {M:List Nat} (h:FSw H q s v) (he:Ext M H T) (hd:∀ i,i∈v.names q→i ∉ M):FSw T q s v:=by
 have hm:∀ (l:List (Nat × Nat)) (i:Nat) (x:Nat × Nat),l[i]? = some x→x∈l:=fun l i x h=>ZS h;refine ⟨he.get h.root (hd _ (by simp [FSv.names])),h.row.ext he fun i hi=>hd i (by simp [FSv.names,hi]),h.pend.ext he fun i hi=>hd i (by simp [FSv.names,hi]),h.len,fun i n x h1 h2=>?_,h.ty⟩;obtain ⟨a1,a2⟩:=h.node i n x h1 h2;have hx:=hm _ _ _ h2;refine ⟨he.get a1 (hd _ ?_),he.get a2 (hd _ ?_)⟩
 ·simp only [FSv.names,zA,ji,kI];exact .inr (.inr (.inr (.inl ⟨x,hx,rfl⟩)))
 ·simp only [FSv.names,zA,ji,kI];exact .inr (.inr (.inr (.inr ⟨x,hx,rfl⟩)))
theorem FSAt.ext {H T:qd} {q:Nat} {s:Fs} {L M:List Nat} (h:FSAt H q s L) (he:Ext M H T) (hd:∀ i,i∈L→i ∉ M):FSAt T q s L:=by
 obtain ⟨v,hv,rfl⟩:=h;exact ⟨v,hv.ext he hd,rfl⟩
theorem FSAt.app {H T:qd} {q:Nat} {s:Fs} {L:List Nat} (h:FSAt H q s L) (he:Ext [] H T):FSAt T q s L:=h.ext he fun _ _=>by simp
def ve (l:List Nd) (name:List UInt8):Option Nat:=l.findIdx? fun n=>n.there && n.name == name
def Js (l:List Nd):Nat:=(l.filter (·.there)).length
def jM:List Nd→Nat
 | []=>0
 | n :: l=>(if n.there then n.b.l.length else 0)+jM l
def JI (s:List UInt8):Bool:=decide (1≤s.length) && decide (s.length≤96) && s.all fun c=>decide (33≤c.toNat) && decide (c.toNat≤126)
def Jr (s:Fs) (name:List UInt8):Nat:=if s.off then 18 else if JI name then 0 else 1
def zS (s:Fs):Nat × Fs:=if s.fuse = 0 then (18,{ s with off:=true }) else if 0 < s.fuse then (0,{ s with fuse:=s.fuse - 1 }) else (0,s)
end Go.Ev

import Derived.Test.YtglpgdajjpipgaaGreatDoorC3
import Derived.Test.YtglpgdajjpipgaaGreatDoorRows
set_option maxHeartbeats 8000000
set_option maxRecDepth 8000
namespace Go.Ev.S
open Go Go.Proofs Go.Ev
def KG(k:Nat->List Nat)(r:Nat):Option (List Nat×Nat):=some (k r,0)
def KF(l:List (List Nat))(r:Nat):Option (List Nat×Nat):=(l[r]?).map (·,0)
@[simp] def kl4:Nat->List Nat|0|1=>[0,1,2]|2|4|6=>[0,1,2,7]|5=>[7]|7|9=>[1,2,7,8]|10=>[1,7,8,9]|11=>[1,7,8,9,10,12]|12=>[1,7,8,9,12,13]|13=>[1,7,8,9,12,13,14]|15=>[1,7,8,9,13,14]|16=>[1,7,8,9,13,15,16]|17=>[7,8,9,13,15,16,17]|19=>[7,8,9,13]|20=>[7,9,10,12,13]|_=>[]
@[simp] def kl5:Nat->List Nat|2=>[2]|_=>[]
@[simp] def kl6:Nat->List Nat|0|1=>[0,1]|3=>[0]|4|5|6=>[0,5]|_=>[]
@[simp] def kl7:Nat->List Nat|0|1=>[0,1]|2|4=>[0,1,5]|5|6|7=>[0,1,5,7]|8=>[0,1,5,7,8]|9|11=>[0,1,5,7,8,9]|10|12=>[0,1,5,7,8,9,10]|13=>[0,1,5,7,8,9,10,11]|14|15=>[0,1,5,7,9,10,11,12]|16=>[5]|_=>[]
@[simp] def kl8:Nat->List Nat|0|1|3=>[0]|4=>[0,5]|5=>[0,5,6]|6|7|15=>[0,5,6,18,19,20]|8|13=>[0,5,6,8,18,19,20]|9=>[0,5,6,8,9,10,18,19,20]|10=>[0,5,6,8,9,18,19,20]|11=>[0,5,6,8,9,11,18,19,20]|12=>[0,5,6,8,9,13,14,18,19,20]|14=>[0,5,6,8,9,13,18,19,20]|16=>[5,6]|_=>[]
@[simp] def kl9:Nat->List Nat|0|1=>[0]|2=>[3]|3=>[3,4]|4|5|6|7=>[3,4,5]|8=>[4]|_=>[]
@[simp] def qsz:Nat->List Nat|0|1|3=>[0,1,2]|4=>[1,2,7]|5|6=>[1,2,7,8]|7=>[1,2,7,8,9,10]|8|9=>[1,2,7,8,9]|10=>[8]|_=>[]
@[simp] def qrX:Nat->List Nat|0=>[0]|1=>[0,2]|_=>[]
@[simp] def qrR:Nat->List Nat|0=>[0,1]|1|3=>[0,1,4]|2=>[4]|_=>[]
@[simp] def qrO:Nat->List Nat|0|1=>[0]|2=>[0,3]|3|4|7=>[0,3,9,10,11]|5|6=>[0,3,5,9,10,11]|8|9=>[3]|_=>[]
@[simp] def qrI:Nat->List Nat|0|1=>[0,1]|2=>[6,7]|3=>[7]|4=>[6]|_=>[]
@[simp] def qr9:Nat->List Nat|0|1|3=>[0,1]|_=>[]
@[simp] def qrz:Nat->List Nat|0=>[0]|1|7|9|10=>[1]|2|4|6|8=>[1,4]|_=>[]
@[simp] def qrt:Nat->List Nat|0|1|9|12=>[0,1]|2=>[0,1,6]|3|5=>[0,1,6,7]|6=>[6]|7=>[0,1,7]|10=>[0,1,9]|11=>[9]|13|14=>[0,10]|_=>[]
def q16:=KF [[0,1,2,3],[0,1,2,3],[0,2,3,9,10],[10],[0,2,3,9],[0,2,3,9,11],[0,9,11,12],[12],[0,9,11],[0,9,11,13],[0,9,11,13,15],[],[0,9,11],[9,11,16],[16],[9,11],[]]
@[simp] def qrl:Nat->List Nat|0|1|3=>[0,1]|4|5|6=>[0,1,5]|_=>[]
@[simp] def qqX:Nat->List Nat|0=>[0]|1|8=>[1]|2|4|6|7=>[1,5]|9=>[1,3]|10|11=>[3]|_=>[]
@[simp] def qqP:Nat->List Nat|0=>[0]|1=>[0,2]|2=>[0,2,3]|3=>[2,3]|_=>[]
@[simp] def qqM:Nat->List Nat|0|1|3|4=>[0,1]|_=>[]
@[simp] def qqJ:Nat->List Nat|0|1=>[0,1]|2=>[0,1,6]|3=>[0,1,7]|4|5=>[0,1,7,8]|6|8=>[0,1,7,8,9]|7=>[0,1,7,8,9,11]|9=>[7,8]|_=>[]
@[simp] def qqB:Nat->List Nat|0|1=>[0,1,2]|2=>[1,2,7]|3|4|5=>[1,2,7,8]|6=>[1,2,7,8,9]|7=>[7]|_=>[]
@[simp] def qq4:Nat->List Nat|0|1=>[0,1]|2=>[0,1,5]|3|4=>[0,5]|_=>[]
@[simp] def qqy:Nat->List Nat|0|1=>[0]|_=>[]
@[simp] def qqs:Nat->List Nat|0=>[0]|1=>[0,2]|2|4|6|7|8|15=>[0,2,4]|3|5|11|16=>[2]|9=>[0,2,4,5]|10|12|13|14=>[0,2,4,6]|17=>[2,4]|_=>[]
@[simp] def qqr:Nat->List Nat|0|1=>[0]|2=>[4,5]|3=>[5]|4=>[4]|5=>[4,6]|6=>[6]|_=>[]
@[simp] def qqq:Nat->List Nat|0|1|3=>[0]|4|5|6=>[0,3]|_=>[]
@[simp] def qqp:Nat->List Nat|0|1=>[0]|2=>[0,3]|3|4|18=>[3,15,16,17]|5=>[3,5,15,16,17]|6|8=>[3,5,6,15,16,17]|7|9|10=>[3,5,6,7,15,16,17]|11=>[3,5,6,8,15,16,17]|12=>[3,5,8,15,16,17]|13|14|17=>[3,5,8,15,16,17,52,53,54]|15=>[3,5,8,10,15,16,17,52,53,54]|16=>[3,5,8,10,11,15,16,17,52,53,54]|19|26=>[3]|20|21|25=>[3,85,86]|22=>[3,13,85,86]|23|24=>[3,14,85,86]|_=>[]
@[simp] def qqo:Nat->List Nat|0=>[0,1]|1=>[0,1,4]|2=>[0,1,4,6]|3|4|9=>[1,4,6,14,15,16]|5|6=>[1,4,6,8,14,15,16]|7=>[1,4,6,9,10,14,15,16]|8=>[1,4,6,9,14,15,16]|10|12=>[4,6]|11=>[4]|13|14|15=>[4,11]|16=>[4,11,12]|_=>[]
@[simp] def qqn:Nat->List Nat|0=>[0,1,2]|1|4=>[0,2,4]|2=>[0,2,4,8]|3=>[8]|5|8|9|11=>[0,2,4,9]|6=>[0,2,9]|7|13=>[0,9]|12=>[0,4,9]|_=>[]
@[simp] def qqm:Nat->List Nat|0=>[0]|1=>[0,2]|_=>[]
@[simp] def qqk:Nat->List Nat|0|1|4=>[0,1]|2=>[0,1,6]|3=>[6]|5|6=>[7]|_=>[]
@[simp] def qqj:Nat->List Nat|0|1=>[0]|_=>[]
def q1y:=KF [[0],[1],[1,3],[6,7],[3,6,7],[3,5,6,7],[3,6,7],[3]]
@[simp] def qqi:Nat->List Nat|0|1=>[0]|2=>[3]|_=>[]
@[simp] def qqh:Nat->List Nat|0|1=>[0]|2=>[0,4,5]|3|4|8=>[4,5,11,12,13]|5|6|7=>[4,5,7,11,12,13]|9=>[4,5]|_=>[]
@[simp] def qqg:Nat->List Nat|0|1|2|4|5=>[0]|_=>[]
@[simp] def qqf:Nat->List Nat|_=>[]
@[simp] def qqe:Nat->List Nat|0|1=>[0]|_=>[]
@[simp] def qqd:Nat->List Nat|0|1|3|5|7|10=>[0,1,2]|8|9=>[0,1,2,7]|_=>[]
@[simp] def qqc:Nat->List Nat|0|1=>[0]|_=>[]
@[simp] def qqa:Nat->List Nat|0=>[0,1]|1=>[2,3]|_=>[]
@[simp] def qpZ:Nat->List Nat|0=>[0]|1=>[1]|2=>[1,3]|3|4|5=>[1,3,4]|6=>[3]|_=>[]
@[simp] def qpY:Nat->List Nat|0|1=>[0]|2=>[0,3]|3|4|5|6=>[0,3,4]|7=>[3]|_=>[]
@[simp] def qpX:Nat->List Nat|0=>[0]|1=>[0,2]|_=>[]
@[simp] def qpW:Nat->List Nat|0=>[0,1]|1=>[1,2]|2|3=>[1,2,5]|4|5|6|7|8|9|10|11|12=>[1,2,5,6]|13=>[1,5,6]|14|15=>[1,5]|16=>[5]|_=>[]
@[simp] def qpV:Nat->List Nat|0|1=>[0]|_=>[]
@[simp] def qpU:Nat->List Nat|0=>[0,1]|1=>[0,1,4]|2=>[0,1,4,5]|_=>[]
@[simp] def qpT:Nat->List Nat|0|1=>[0]|_=>[]
def q1x:=KF [[0,1,2,3,4],[0,1,2,3,9],[0,2,3,9,12,13],[13],[0,2,3,9,12],[],[0,2,3,9,12],[0,2,3,9,12,14],[0,2,3,9,12,14,15],[0,2,3,9,12,14,15,16],[0,2,3,9,12,14,15,16,17],[0,2,3,9,12,14,15,16,17,18],[0,2,3,9,12,14,15,16,17,18],[0,2,3,9,12,14,15,16,17,18],[0,2,3,9,12,14,15,16,17,18,19],[0,2,3,9,12,14,15,16,17,18,19],[0,2,3,9,12,14,15,16,17,18,19,20],[0,2,3,9,12,14,15,16,17,18,19,20],[0,2,3,9,12,14,15,16,17,18,19,20],[0,2,3,9,14,15,16,17],[0,2,3,9,14,15,16,17,21],[0,2,3,9,14,15,16,17,21],[0,2,3,9,14,15,16,17,21],[0,2,3,9,14,15,16,17,21,22],[0,2,3,9,14,15,16,17],[0,2,3,9,14,15,16,17,23],[0,2,3,9,14,16,23,24],[0,2,3,9,14,16,23,24],[0,2,3,9,14,16,23,24,26],[0,2,3,9,14,16,23,24,25,26],[0,2,3,9,14,16,23,24,25,26],[0,2,3,9,14,16,23,24,26],[0,2,3,9,14,16,23,24,26,27],[0,2,3,9,14,16,23,24,26,27],[0,2,3,9,14,16,23,24,26,27],[0,2,3,9,14,16,23,24,26,27,28],[0,2,3,9,14,16,23,24,26,27,28],[0,2,3,9,14,16,23,24,26,27,28],[0,2,3,9,14,16,23,24,26,27,28],[0,2,3,9,14,16,23,24,26,27,28],[0,2,3,9,14,16,23,24,26,27,28],[0,2,3,9,14,23,24,26],[0,14],[],[0,2,3,9,23,24,26],[0,2,3,9,23,24],[0,2,3,9,23,24],[0,2,3,9,23,24],[0,9,23,24],[23]]
@[simp] def qpS:Nat->List Nat|0|1=>[0]|_=>[]
@[simp] def qpQ:Nat->List Nat|0=>[0,1]|1=>[1,2]|2|3|4|5=>[1,2,5]|6|7=>[2,5]|_=>[]
@[simp] def qpP:Nat->List Nat|0|1=>[0,1]|_=>[]
@[simp] def qpO:Nat->List Nat|0|1=>[0,1]|_=>[]
@[simp] def qpN:Nat->List Nat|0|1=>[0,1]|_=>[]
@[simp] def qpM:Nat->List Nat|0|1=>[0,1]|_=>[]
@[simp] def qpL:Nat->List Nat|0=>[0]|1=>[0,2]|2|4=>[0,2,4]|3|9=>[2]|5|6|11=>[0,2,4,12,13]|7=>[0,2,4,5,12,13]|8|10=>[0,2,4,5,6,12,13]|12=>[2,4]|_=>[]
@[simp] def qpK:Nat->List Nat|0|1=>[0]|2=>[0,4,5]|4=>[4]|_=>[]
@[simp] def qpJ:Nat->List Nat|0|1=>[0]|2=>[0,4,5]|3=>[5]|4=>[0,4]|5=>[0,4,6]|_=>[]
@[simp] def qpI:Nat->List Nat|0|1=>[0]|2=>[0,4]|3|4|6=>[0,4,5]|5|14|19=>[5]|7=>[0,4,5,6,7]|8=>[5,7]|9=>[0,4,5,6]|10|11|18=>[0,4,5,40,41,42]|12|13|15=>[0,4,5,9,40,41,42]|16=>[0,4,5,10,40,41,42]|17=>[5,10]|_=>[]
@[simp] def qpH:Nat->List Nat|0|1=>[0,1]|_=>[]
@[simp] def qpF:Nat->List Nat|0|1=>[0,1]|2|3|6=>[0,1,7,8]|4=>[0,1,5,7,8]|5=>[5]|_=>[]
@[simp] def qpE:Nat->List Nat|0=>[0,1]|1=>[1,2]|_=>[]
def q1w:=KF [[0],[0],[0],[0,3],[0,3,16,17],[0,3,16,17],[0,3,4,16,17],[0,3,4,5,6,16,17],[0,4,5,16,17],[0,3,16,17],[0],[0]]
@[simp] def qpD:Nat->List Nat|0=>[0,1]|1=>[0,1,4]|2=>[0,4,6,7]|3=>[4,7]|4=>[0,4,6]|_=>[]
@[simp] def qpC:Nat->List Nat|0=>[0,1]|_=>[]
@[simp] def qpB:Nat->List Nat|0=>[0,1]|1=>[2,3]|_=>[]
@[simp] def qpA:Nat->List Nat|0|1|9|11=>[0,1]|2=>[0,1,5]|3=>[0,1,5,6]|4=>[6]|7=>[0,1,6]|_=>[]
@[simp] def qp9:Nat->List Nat|0|1|3=>[0,1]|2|16=>[0]|4|5|6|7=>[0,1,5]|8=>[0,1,5,6]|9|10|11|12|13=>[0,1,5,6,7]|14|15=>[0,5]|_=>[]
@[simp] def qp8:Nat->List Nat|0=>[0,1]|1=>[2,3]|_=>[]
@[simp] def qp7:Nat->List Nat|0|1=>[0,1]|_=>[]
@[simp] def qp5:Nat->List Nat|0=>[0,1]|1=>[1,2]|_=>[]
@[simp] def qp4:Nat->List Nat|0=>[0,1]|1=>[1,2,4]|2=>[1,2,4,6]|3=>[1,2,4,6,7,8]|4|5|7=>[1,2,4,6,7]|6=>[1,2,4,6,7,9]|8=>[1,4,6]|9|10=>[1,4,6,9]|11=>[4,6]|_=>[]
@[simp] def qp3:Nat->List Nat|0=>[0,1]|1=>[0,3,4]|2=>[0,3,4,5]|3=>[0,4,5]|4=>[3,4]|_=>[]
@[simp] def qp2:Nat->List Nat|0=>[0,1]|1|2|3=>[0,1,4]|4=>[0,1,4,5]|5|6|7|8=>[0,1,4,5,6]|9=>[4,5]|_=>[]
@[simp] def qp1:Nat->List Nat|0=>[0,1]|1|3|5=>[2,3]|_=>[]
@[simp] def qp0:Nat->List Nat|0=>[0,1]|1|3=>[0,3]|_=>[]
@[simp] def qpz:Nat->List Nat|0|1|3=>[0,1]|_=>[]
@[simp] def qpy:Nat->List Nat|0=>[0,1]|1=>[0,3]|2|6=>[3,5]|3|4=>[3,5,6]|5|7|8=>[5]|_=>[]
@[simp] def qpw:Nat->List Nat|0|1=>[0,1]|3=>[1]|4|5|8=>[11,12,13]|6=>[6,11,12,13]|_=>[]
@[simp] def qpv:Nat->List Nat|0|1=>[0,1]|2|3|6=>[1,10,11,12]|4=>[1,6,10,11,12]|5=>[6]|_=>[]
@[simp] def qpu:Nat->List Nat|0|1|3=>[0]|_=>[]
@[simp] def qpt:Nat->List Nat|0|1=>[0,1]|_=>[]
@[simp] def qps:Nat->List Nat|0=>[0,1]|1=>[2,3]|_=>[]
def q1v:=KF [[0,1],[0,1],[],[0,1],[0,1,5],[0,1,6],[0,1,5,6],[0,1,5,6],[0,5]]
def q1u:=KF [[0],[0],[],[0],[0,4],[0,5],[0,4,5],[0,4,5],[0,4,5,7],[7],[0,4,5],[0,4,5,8],[0,4,5,8],[0,4,5,8],[0,4,5,8],[0,4,5,8],[0,4,5,8,9],[0,4,5,8,9],[0,4,5,8,9],[0,4,5,8],[4],[],[4]]
def q1t:=KF [[0,1],[0,1],[0,1,5],[0,6],[0,5,6],[0,5,6],[5]]
@[simp] def qsy:Nat->List Nat|0|1=>[0]|2|3|4|5|11=>[0,3]|6|7|8=>[0,3,4]|9|10=>[0,3,4,5]|12=>[3]|_=>[]
@[simp] def qsx:Nat->List Nat|0=>[0,1]|1=>[0,3]|2|7=>[0,3,5]|3|4|5=>[0,3,5,6]|6=>[6]|8=>[0,3,5,7]|9=>[0,3,5,7,8]|10|12|13=>[0,3,5,8,9]|11=>[0,3,5,8,9,10]|14=>[0,3,8]|15|17=>[0,8,11]|16=>[0,8,11,12]|18=>[0]|_=>[]
@[simp] def qsw:Nat->List Nat|0=>[0,1,2]|1=>[0,2,4]|2=>[2,4]|3=>[2]|_=>[]
@[simp] def qsv:Nat->List Nat|0|1=>[0,1]|2=>[0,1,5]|3|4=>[0,5]|5=>[5]|_=>[]
def q1E:=KF [[0],[1],[1,3],[1,3],[4],[1,3,4],[1,3,4],[3]]
@[simp] def qsu:Nat->List Nat|0|1=>[0]|2=>[0,3]|3|4|5=>[0,3,4]|6=>[3]|_=>[]
@[simp] def qst:Nat->List Nat|0|1=>[0,1,2,3,4]|2|7=>[0,1,2,3,4,12,13]|3|4|6=>[0,1,2,3,4,12,13,14]|5=>[0,1,2,3,4,13,14]|8=>[0,1,2,3,4,13]|9|10|11=>[0,1,2,3,4,13,15]|12|13=>[0,1,2,4,13,15]|14=>[0,1,2,4,12,15]|15=>[0,1,2,4,12]|16=>[1,2,12]|_=>[]
@[simp] def qss:Nat->List Nat|0=>[0,1,2]|1|2|3=>[0,1,2,6]|_=>[]
def q1D:=KF [[0,1],[0,1],[0,1,5],[0,1,5,6],[0,1,6],[0,1,5,6],[0,1,5,6],[5]]
def q1C:=KF [[0],[0],[0,3],[0,3,4],[0,4],[0,3,4],[3]]
@[simp] def qsr:Nat->List Nat|0|1=>[0,1]|_=>[]
@[simp] def qsq:Nat->List Nat|0|1|2=>[0,1]|3=>[0]|_=>[]
@[simp] def qsp:Nat->List Nat|0|1|2=>[0,1]|3=>[0]|_=>[]
@[simp] def qso:Nat->List Nat|0|1|3|5|7|8=>[0,1,2,3]|4=>[0,3]|6=>[0,1,2]|9|10=>[0,1,2,3,9]|11|12|16=>[0,1,2,3,9,10]|13|14|15=>[0,1,2,3,9,10,11]|17=>[0,9,10]|18=>[9,10]|_=>[]
@[simp] def qsn:Nat->List Nat|0|1=>[0,1]|_=>[]
@[simp] def qsm:Nat->List Nat|0|1=>[0,1,2]|2|3=>[0,1,2,8,9]|4=>[8]|_=>[]
@[simp] def qsl:Nat->List Nat|0=>[0]|1|3|5=>[0,2]|2|4|8|10|12|14=>[2]|6=>[0,2,4]|7|9|11|13=>[0,2,4,5,6]|15|18=>[2,4,5]|16=>[2,4,5,7]|17=>[2,7]|19=>[2,4,8]|20=>[2,8]|21=>[2,4]|_=>[]
@[simp] def qsk:Nat->List Nat|0=>[0]|1=>[1]|2=>[1,4]|4=>[4]|_=>[]
@[simp] def qsi:Nat->List Nat|0|1=>[0,1]|_=>[]
@[simp] def qsh:Nat->List Nat|0|1|3=>[0,1]|4=>[0,6,7]|5=>[6,7]|_=>[]
@[simp] def qsg:Nat->List Nat|0|1|4=>[0,1]|2=>[0,1,5]|_=>[]
@[simp] def qsf:Nat->List Nat|0|1|3=>[0]|_=>[]
@[simp] def qse:Nat->List Nat|0|1|3=>[0,1]|_=>[]
@[simp] def qsd:Nat->List Nat|0=>[0,1]|1=>[2,3,4]|2=>[4,5]|_=>[]
@[simp] def qsc:Nat->List Nat|0=>[0,1,2]|1|7|8|16=>[0,1,2,6]|2|3|5|9|10|12=>[0,1,2,6,7,8]|4|11=>[0,1,2,6,8]|6|13=>[0,1,2,6,7]|14|15=>[0,1,2,6,7,9]|_=>[]
@[simp] def qsb:Nat->List Nat|0|1=>[0]|_=>[]
@[simp] def qsa:Nat->List Nat|0|1=>[0,1]|2|3|6=>[0,1,7,8]|4=>[0,1,5,7,8]|5=>[5]|_=>[]
@[simp] def qrZ:Nat->List Nat|0|1=>[0,1,2]|2=>[0,1,2,8]|3|4=>[0,1,2,8,9,10]|5=>[0,1,2,8,9,10,11]|6=>[0,1,2,8,10,11]|7=>[0,1,2,8,9,11]|8=>[0,1,2,8,9]|_=>[]
@[simp] def qrY:Nat->List Nat|0=>[0,1]|1=>[1,2]|_=>[]
@[simp] def qrW:Nat->List Nat|0=>[0,1]|1=>[0,3]|_=>[]
@[simp] def qrV:Nat->List Nat|0|1=>[0]|2=>[0,3]|3|4|7=>[3,6,7,8]|5=>[3,5,6,7,8]|6=>[5]|8=>[3]|_=>[]
@[simp] def qrU:Nat->List Nat|0|1|3=>[0]|_=>[]
@[simp] def qrT:Nat->List Nat|0=>[0,1]|1=>[0,1,4]|_=>[]
@[simp] def qrS:Nat->List Nat|0=>[0,1]|1=>[2,3]|_=>[]
@[simp] def qrQ:Nat->List Nat|0|1|3=>[0]|4|5|8=>[0,13,14]|6=>[0,3,13,14]|_=>[]
@[simp] def qrP:Nat->List Nat|0|1|8=>[0,1]|2|3|4=>[0]|5=>[0,5]|6=>[0,5,6]|7=>[5,6]|9=>[8]|_=>[]
@[simp] def qrN:Nat->List Nat|0|1|3=>[0,1]|4|5|6=>[0,1,5]|_=>[]
def q1B:=KF [[0,1],[0,1],[],[0,1],[1,5],[],[5],[5]]
@[simp] def qrM:Nat->List Nat|0=>[0]|1|3|5=>[1]|_=>[]
@[simp] def qrL:Nat->List Nat|0=>[0]|1=>[1]|_=>[]
@[simp] def qrK:Nat->List Nat|0=>[0]|1=>[0,2]|_=>[]
@[simp] def qrJ:Nat->List Nat|0=>[0]|1=>[1]|_=>[]
@[simp] def qrH:Nat->List Nat|0|1=>[0,1,2,3,4]|2=>[0,1,2,3,4,11,12]|3|4|5=>[0,1,2,3,4,11,12,13]|6|7=>[0,1,2,3,4,11,13]|8=>[0,2,3,4,11,12]|9|11=>[0,3,11,12,14]|10|12=>[0,3,11,14]|13=>[11]|_=>[]
@[simp] def qrG:Nat->List Nat|0|1|6=>[0,1]|2|3|4=>[0,1,5]|5=>[0,5]|7=>[0,1,6]|8=>[0,1,6,7]|9|10|11=>[0,1,7,8]|12=>[7]|_=>[]
@[simp] def qrF:Nat->List Nat|0|1|3=>[0,1,2]|4=>[0,1,2,8]|5|6|7=>[0,1,8,9]|8=>[8]|_=>[]
def q1A:=KF [[0,1],[1,2],[1,5,6],[1,7],[1,7,8],[1,7,8],[1,7,8,9],[1,7,8,9],[1,7,8,9],[1,7,8],[1,7,8],[7,10],[7,10],[7,10],[7],[7],[7]]
@[simp] def qrE:Nat->List Nat|0|1=>[0]|2=>[0,3]|3|5=>[0,3,4,5]|4|40|41|42=>[4,5]|6|7|8|9|10|11|12|13|14|15|16|17|18|19|20|21|22|23|24|25|26|27=>[0,3,4,5,6]|28|29|30|31|32|33|34|35|36|37|38|39=>[3,4,5]|_=>[]
@[simp] def qrD:Nat->List Nat|0|1|3|5=>[0]|_=>[]
@[simp] def qrC:Nat->List Nat|0=>[0]|1=>[1]|_=>[]
@[simp] def qrB:Nat->List Nat|0|1=>[0,1]|_=>[]
@[simp] def qrA:Nat->List Nat|0|1|3|4|5=>[0,1]|2=>[0]|6=>[0,1,5]|7|9|10=>[0,1,5,6]|8=>[5]|_=>[]
@[simp] def qr8:Nat->List Nat|0|1=>[0,1]|_=>[]
@[simp] def qr7:Nat->List Nat|0|1=>[0,1]|_=>[]
@[simp] def qr6:Nat->List Nat|0|1|3=>[0,1,2]|4=>[0,1,2,8]|6|7|9|11|14|17|20|21|23|25|26|27|29|31=>[0,1,2,8,9]|8|10|12|13|15|16|18|19=>[0,2,8,9]|22=>[0,1,8,9]|28|30=>[0,1,2,8,9,85]|32=>[0,1,2,8,9,10]|33=>[0,1,8,9,10,11]|34=>[0,1,8,9,10,11,12]|35=>[0,1,8,9,10,11,12,13]|36|37|55=>[1,8,9,10,11,12,13,99,100,101]|38|40|42|43|44|45=>[1,8,9,10,11,12,13,15,99,100,101]|41=>[1,8,9,10,11,13,99,100,101]|46|48|50|51=>[1,8,9,10,11,12,13,16,99,100,101]|49|53=>[11]|52=>[1,8,9,10,11,12,13,17,99,100,101]|54=>[1,8,9,10,11,12,17,99,100,101]|56=>[9,12,13]|58=>[13]|_=>[]
@[simp] def qr5:Nat->List Nat|0|1=>[0,1,2,3,4]|2|4|6=>[0,1,2,3,4,11]|3|5=>[0,1]|7=>[0,1,2]|8=>[0,1,3,4,11]|9=>[0,1,3]|10=>[4]|_=>[]
@[simp] def qr4:Nat->List Nat|0|1=>[0,1]|_=>[]
@[simp] def qr3:Nat->List Nat|0=>[0]|1=>[1,2]|2=>[1,2,3]|3|4=>[1,2,3,4]|5|10|16=>[1,2,3,4,5]|6|7|9=>[1,2,3,4,5,22,23,24]|8=>[1,2,3,4,5,7,22,23,24]|11|12|14|15=>[1,2,3,4,5,38,39,40]|13=>[1,2,3,4,5,9,38,39,40]|17=>[1,2,3,5]|18=>[2,3]|_=>[]
@[simp] def qr2:Nat->List Nat|0=>[0,1,2,3]|1|3|5=>[1,2,3,4]|_=>[]
@[simp] def qr1:Nat->List Nat|0|1=>[0]|_=>[]
@[simp] def qr0:Nat->List Nat|0=>[0,1]|1=>[2,3,4]|2=>[4,5]|_=>[]
@[simp] def qry:Nat->List Nat|0=>[0,1,2]|_=>[]
def q19:=KF [[0,1],[0,1,4],[0,4,5],[0,4,5,6],[0,4,5,6],[0,4,5,6],[0,4,5,6,7],[0,4,5,6,7,32,33,34],[0,4,5,6,7,32,33,34],[0,4,5,6,7,9,32,33,34],[0,4,5,6,7,9,10,32,33,34],[0,4,5,6,7,10,32,33,34],[0,4,5,6,7,10,32,33,34],[0,4,5,6,7,10,11,12,32,33,34],[0,4,5,6,7,10,11,32,33,34],[0,4,5,6,7,10,32,33,34],[0,32,33,34],[4,5,6,7],[4,6],[4,6]]
@[simp] def qrx:Nat->List Nat|0=>[0,1,2,3]|1|2|3=>[0,1,2,3,8]|4|5|6=>[0,1,2,3,8,9]|_=>[]
@[simp] def qrw:Nat->List Nat|0|1|12|24=>[0,1,2,3,4]|2=>[0,1,3,4,10]|3|4=>[0,1,4,10,11]|5=>[0,1,4,10,11,12]|6=>[0,1,4,11,12]|7=>[0,1,4,10,12]|8=>[0,1,10]|9|10|11=>[0,10,13]|13=>[0,1,2,4]|14=>[0,2,4,14]|15|16=>[0,2,4,14,15]|17=>[0,2,4,14,15,16]|18=>[0,2,4,15,16]|19=>[0,2,4,14,16]|20=>[0,2,14]|21|22|23=>[0,14,17]|25=>[0,1,2,3,4,18]|26|27|28|30=>[0,1,2,3,4,18,19]|29|31|38=>[0,1,2,3,4,18,19,20]|32=>[0,1,2,3,4,18,19,20,21]|33|34=>[0,1,2,3,4,18,19,20,21,22]|35=>[0,1,2,3,4,18,19,20,21,22,23]|36=>[0,1,2,3,4,18,19,21,22,23]|37=>[0,1,2,3,4,18,19,20,22,23]|39|40=>[0,1,2,3,4,18,20,24]|41|42=>[0,1,3,4,18,20,24]|43|44=>[0,3,4,18,24]|_=>[]
@[simp] def qrv:Nat->List Nat|0=>[0,1]|1=>[1,2]|_=>[]
@[simp] def qru:Nat->List Nat|0=>[0,1,2,3,4]|1=>[0,1,2,3,4,10]|2=>[0,1,2,3,4,10,11]|3|5|7|8|9|10=>[0,1,2,3,4,10,11,12]|4|6=>[0,1,2,4]|11|15=>[0,1,2,3,4,10,11,12,13,14]|12|13|14|16|17=>[0,1,2,3,4,10,11,12,13]|18=>[0,1,2,3,4,10,11,13]|19=>[0,2,3,4,10,11,15]|20=>[0,1,2,3,4,12,13]|21=>[0,1,2,3,4,12,16,17]|22=>[0,1,2,3,4,11,12,16]|23=>[0,1,2,3,4,11,12,16,18,19]|24=>[0,1,2,3,4,11,16,18,19,20]|25=>[0,1,2,3,4,11,16,18,20]|26|29=>[0,1,2,3,4,10,11,16]|27=>[0,2,3,4,10,11,16]|28=>[0,1,2,3,4,11,16,19,20]|30=>[0,1,3,4,10,11,16]|_=>[]
@[simp] def qrs:Nat->List Nat|0=>[0,1,2,3,4]|1|2|3=>[0,1,2,3,4,10,11]|4=>[0,1,2,3,4,10,11,12]|5|6|7|8|17=>[0,1,2,3,4,10,11,12,13]|9=>[0,1,2,3,4,10,11,12,13,14]|10=>[0,1,2,3,4,10,11,12,13,14,15]|11|12|13|14=>[0,1,3,4,10,11,12,13,14,15,16]|15|16|23|24=>[0,1,3,4,10,11,12,13]|18|19|20=>[0,1,3,4,10,11,12,13,17]|21=>[0,1,3,4,10,11,12,13,17,18]|22=>[0,3,4,10,11,12,13,17,18]|25=>[0,3,4,10,11,12,13]|26|27|28=>[0,4,10,11,12,13]|29=>[0,11,12,13]|30=>[10,12,13]|_=>[]
@[simp] def qrr:Nat->List Nat|0|1|7=>[0]|2|3|4=>[0,3]|5=>[0,3,4]|_=>[]
@[simp] def qrq:Nat->List Nat|0=>[0]|1=>[1]|_=>[]
@[simp] def qrp:Nat->List Nat|0|1=>[0,1]|_=>[]
@[simp] def qro:Nat->List Nat|0=>[0,1]|1=>[1,2,4]|2=>[1,4,5,6,7,8]|3|4|5|6|7|8|9|10|11|12|13|14|15|16|17|18=>[1,4,5,6,7,8,9]|19=>[4,5,6,7,8]|_=>[]
@[simp] def qrn:Nat->List Nat|0|1=>[0,1]|2=>[0,1,5]|3|4|5|6|7=>[0,1,5,6]|8=>[5]|_=>[]
@[simp] def qrm:Nat->List Nat|0|1=>[0,1]|_=>[]
@[simp] def qrk:Nat->List Nat|0|1=>[0]|_=>[]
@[simp] def qrj:Nat->List Nat|0|1=>[0,1]|_=>[]
@[simp] def qri:Nat->List Nat|0|1=>[0,1]|_=>[]
@[simp] def qrh:Nat->List Nat|0|1=>[0,1]|_=>[]
@[simp] def qrg:Nat->List Nat|0|1=>[0,1]|2=>[4]|_=>[]
@[simp] def qrf:Nat->List Nat|0|1|3=>[0,1,2]|4=>[0,1,2,8]|5|6|7=>[0,1,8,9]|8=>[8]|_=>[]
@[simp] def qre:Nat->List Nat|0|1=>[0]|_=>[]
@[simp] def qrd:Nat->List Nat|0|1=>[0]|_=>[]
@[simp] def qrc:Nat->List Nat|0|1=>[0,1,2]|2=>[2,3,4]|3=>[2,3]|_=>[]
@[simp] def qrb:Nat->List Nat|0=>[0,1]|_=>[]
@[simp] def qra:Nat->List Nat|0=>[0,1]|1=>[0,1,4]|2=>[4,6,7]|3=>[4,7]|4=>[4,6]|5=>[4,8]|_=>[]
@[simp] def qqZ:Nat->List Nat|0|1=>[0]|_=>[]
@[simp] def qqY:Nat->List Nat|0=>[0,1]|1|2=>[0,1,4]|3=>[4,5,6]|4=>[4,5]|_=>[]
@[simp] def qqW:Nat->List Nat|0=>[0,1]|1=>[0,1,4]|2=>[0,4,5]|3|4=>[4,5]|_=>[]
@[simp] def qqV:Nat->List Nat|0=>[0]|1=>[0,2]|2=>[2,4,5,6]|3|5=>[2]|4|6=>[2,4,5]|_=>[]
@[simp] def qqS:Nat->List Nat|0|1=>[0]|2=>[0,3]|3|4|6=>[3,6,7,8]|5=>[3,5,6,7,8]|7=>[3]|_=>[]
@[simp] def qqR:Nat->List Nat|0=>[0,1,2,3,4]|1=>[0,2,3,4,10]|2|3|4|5|6|7=>[0,2,4,10,11]|8=>[0,2,4,10]|_=>[]
@[simp] def qqQ:Nat->List Nat|0=>[0,1,2,3]|1|2|3=>[0,1,2,3,8]|4|5|6=>[0,1,2,3,8,9]|_=>[]
@[simp] def qqO:Nat->List Nat|0|1=>[0,1]|_=>[]
@[simp] def qqL:Nat->List Nat|0|1=>[0]|_=>[]
@[simp] def qqK:Nat->List Nat|0|1=>[0,1,2,3,4]|2=>[0,1,2,3,4,12,13]|3=>[0,1,2,4,12,13,14]|4=>[13]|5=>[0,1,2,4,12,14]|7=>[0,1,4,12,14]|9=>[0,1,12]|_=>[]
def q15:=KF [[0],[0],[0,3],[0,3,4],[0,4],[0,3,4],[0,3,4,5],[3]]
def q12:=KF [[0,1],[0,1,4],[4,6,7],[4,7],[4,6],[4,6,8],[4,6,8,9],[4,8,9],[4,8,9,10],[8,10],[4,8,9,10],[4,9],[4],[4,9],[4,9,11],[4,9,11],[4,9,11],[4],[4,9]]
@[simp] def qqI:Nat->List Nat|0=>[0,1]|1|2=>[0,1,4]|3=>[4,5,6]|4=>[4,5]|_=>[]
@[simp] def qqH:Nat->List Nat|0|1=>[0,1]|_=>[]
@[simp] def qqF:Nat->List Nat|0|1=>[0,1]|2|3=>[0,1,7]|4=>[0]|_=>[]
@[simp] def qqE:Nat->List Nat|0|1|3=>[0]|4|5|9=>[0,24,25]|6=>[0,3,24,25]|7=>[0,4,24,25]|_=>[]
def q11:=KF [[0],[0],[0,3],[0,4],[0,4],[0,4],[0,4],[0,4],[0,4],[0,4,5],[4,5],[4],[4]]
@[simp] def qqD:Nat->List Nat|0=>[0,1,2,3]|1|2|3=>[0,1,2,3,10]|_=>[]
@[simp] def qqA:Nat->List Nat|0=>[0,1]|1=>[0,1,4]|2|4|6|7=>[0,1,4,6]|3|5|10|12|14|16=>[4]|8=>[0,1,4,6,7]|9|11|13|15=>[4,6,7]|17=>[4,7]|_=>[]
@[simp] def qq9:Nat->List Nat|0=>[0,1]|1=>[0,1,4]|2=>[4,6,7,8]|3=>[4,8]|4=>[4,6,7]|_=>[]
@[simp] def qq8:Nat->List Nat|0=>[0,1,2]|1=>[0,2,4]|2=>[2,4]|3=>[2]|_=>[]
@[simp] def qq7:Nat->List Nat|0|1|5|7|14=>[0,1]|2|4|6|10|12|13|15|36=>[0,1,5]|16=>[0,1,5,6]|17=>[0,1,5,6,7]|18=>[0,1,5,6,7,8]|19=>[0,1,5,6,7,8,9]|20|21|22|26|28|29|30=>[0,1,5,6,7,8,9,10]|23|25=>[0,1,5,6,7,8,9,10,11]|27=>[8]|31=>[0,1,8]|32|33=>[8,12]|37=>[0,1,5,13]|38=>[0,1,5,13,14]|39=>[0,1,5,13,14,15]|40=>[0,1,5,13,14,15,16]|41|42|43|46|48|49|50=>[0,1,5,13,14,15,16,17]|44|45=>[0,1,5,13,14,15,16,17,18]|47=>[15]|51=>[0,1,15]|52|54=>[15,19]|_=>[]
@[simp] def qq6:Nat->List Nat|0=>[0,1]|1=>[0,1,4]|2=>[0,1,4,6]|3=>[0,4,6,8]|4=>[0,6,8]|5=>[0,8]|_=>[]
@[simp] def qq5:Nat->List Nat|0=>[0]|1|2|3|4|5|6|7|8|9|10|11|12|13|14|15|16|17|18|19=>[0,2,3,4]|_=>[]
@[simp] def qq3:Nat->List Nat|0=>[0]|1|2|3|4|5|6|7|8|9|10|11|12|13|14|15=>[0,2,3,4]|_=>[]
def q1z:=KF [[0,1,2,3],[0,1,2,3],[0,1,2,3,11,12],[12],[0,1,2,3,11],[],[0,1,3,11],[],[0,1,3,11],[3,13],[3,13],[3,13,14,49,50],[3,13,14,49,50],[3,13,14,15,49,50],[3,13,14,16,49,50],[3,13,49,50],[3,13,14]]
@[simp] def qq2:Nat->List Nat|0=>[0,1]|1=>[1,2]|2=>[1,5]|3=>[5]|_=>[]
@[simp] def qq1:Nat->List Nat|0|1=>[0,1]|_=>[]
@[simp] def qq0:Nat->List Nat|0|1=>[0,1]|2=>[0,5]|_=>[]
@[simp] def qqz:Nat->List Nat|0=>[0]|1=>[1]|2=>[1,3]|3=>[3,5]|_=>[]
@[simp] def qqx:Nat->List Nat|0|1|2|5|6|8=>[0,1]|3|4=>[0,1,4]|7=>[0,1,5]|_=>[]
@[simp] def qqw:Nat->List Nat|0|1=>[0]|2|3|4=>[0,3]|5=>[0,4]|6=>[4,6]|7|8|9=>[6]|_=>[]
@[simp] def qqv:Nat->List Nat|0|1|2=>[0,1]|_=>[]
@[simp] def qqu:Nat->List Nat|0=>[0,1]|1=>[0,1,4,5,6,7]|2|3|4|5|6|7|8|9|10|11|12|13=>[0,4,5,6,7,24,25]|14=>[0,4,5,6,7]|_=>[]
@[simp] def qqt:Nat->List Nat|0|1=>[0,1]|2=>[0,5]|_=>[]
def q1F:Nat->Nat->Option (List Nat×Nat)
 |4=>KG kl4
 |5=>KG kl5
 |6=>KG kl6
 |7=>KG kl7
 |8=>KG kl8
 |9=>KG kl9
 |10=>KG qsz
 |13=>KG qrX
 |14=>KG qrR
 |15=>KG qrO
 |16=>KG qrI
 |17=>KG qr9
 |18=>KG qrz
 |19=>KG qrt
 |20=>q16
 |21=>KG qrl
 |23=>KG qqX
 |24=>KG qqP
 |25=>KG qqM
 |26=>KG qqJ
 |27=>KG qqB
 |28=>KG qq4
 |29=>KG qqy
 |30=>KG qqs
 |31=>KG qqr
 |32=>KG qqq
 |33=>KG qqp
 |34=>KG qqo
 |35=>KG qqn
 |38=>KG qqm
 |40=>KG qqk
 |41=>KG qqj
 |42=>q1y
 |43=>KG qqi
 |44=>KG qqh
 |45=>KG qqg
 |46=>KG qqf
 |47=>KG qqe
 |48=>KG qqd
 |49=>KG qqc
 |50=>KG qqa
 |51=>KG qpZ
 |52=>KG qpY
 |53=>KG qpX
 |54=>KG qpW
 |55=>KG qpV
 |56=>KG qpU
 |57=>KG qpT
 |58=>q1x
 |59=>KG qpS
 |60=>KG qpQ
 |61=>KG qpP
 |62=>KG qpO
 |63=>KG qpN
 |64=>KG qpM
 |65=>KG qpL
 |66=>KG qpK
 |67=>KG qpJ
 |68=>KG qpI
 |69=>KG qpH
 |70=>KG qpF
 |71=>KG qpE
 |72=>q1w
 |73=>KG qpD
 |74=>KG qpC
 |75=>KG qpB
 |76=>KG qpA
 |77=>KG qp9
 |78=>KG qp8
 |79=>KG qp7
 |80=>KG qp5
 |81=>KG qp4
 |82=>KG qp3
 |83=>KG qp2
 |84=>KG qp1
 |85=>KG qp0
 |86=>KG qpz
 |87=>KG qpy
 |91=>KG qpw
 |92=>KG qpv
 |93=>KG qpu
 |94=>KG qpt
 |96=>KG qps
 |97=>q1v
 |98=>q1u
 |99=>q1t
 |100=>KG qsy
 |101=>KG qsx
 |102=>KG qsw
 |103=>KG qsv
 |104=>q1E
 |105=>KG qsu
 |106=>KG qst
 |107=>KG qss
 |108=>q1D
 |109=>q1C
 |110=>KG qsr
 |111=>KG qsq
 |112=>KG qsp
 |113=>KG qso
 |114=>KG qsn
 |115=>KG qsm
 |116=>KG qsl
 |117=>KG qsk
 |118=>KG qsi
 |119=>KG qsh
 |120=>KG qsg
 |122=>KG qsf
 |123=>KG qse
 |124=>KG qsd
 |125=>KG qsc
 |126=>KG qsb
 |127=>KG qsa
 |128=>KG qrZ
 |129=>KG qrY
 |130=>KG qrW
 |131=>KG qrV
 |132=>KG qrU
 |133=>KG qrT
 |134=>KG qrS
 |146=>KG qrQ
 |147=>KG qrP
 |154=>KG qrN
 |155=>q1B
 |156=>KG qrM
 |157=>KG qrL
 |158=>KG qrK
 |159=>KG qrJ
 |160=>KG qrH
 |161=>KG qrG
 |162=>KG qrF
 |163=>q1A
 |164=>KG qrE
 |165=>KG qrD
 |166=>KG qrC
 |167=>KG qrB
 |169=>KG qrA
 |170=>KG qr8
 |171=>KG qr7
 |172=>KG qr6
 |173=>KG qr5
 |174=>KG qr4
 |175=>KG qr3
 |176=>KG qr2
 |177=>KG qr1
 |178=>KG qr0
 |180=>KG qry
 |181=>q19
 |182=>KG qrx
 |183=>KG qrw
 |184=>KG qrv
 |185=>KG qru
 |195=>KG qrs
 |200=>KG qrr
 |203=>KG qrq
 |204=>KG qrp
 |205=>KG qro
 |206=>KG qrn
 |207=>KG qrm
 |213=>KG qrk
 |215=>KG qrj
 |216=>KG qri
 |219=>KG qrh
 |220=>KG qrg
 |221=>KG qrf
 |222=>KG qre
 |223=>KG qrd
 |224=>KG qrc
 |225=>KG qrb
 |226=>KG qra
 |227=>KG qqZ
 |229=>KG qqY
 |230=>KG qqW
 |231=>KG qqV
 |232=>KG qqS
 |233=>KG qqR
 |234=>KG qqQ
 |249=>KG qqO
 |257=>KG qqL
 |258=>KG qqK
 |259=>q15
 |260=>q12
 |261=>KG qqI
 |262=>KG qqH
 |263=>KG qqF
 |264=>KG qqE
 |265=>q11
 |266=>KG qqD
 |274=>KG qqA
 |275=>KG qq9
 |276=>KG qq8
 |277=>KG qq7
 |278=>KG qq6
 |279=>KG qq5
 |280=>KG qq3
 |283=>q1z
 |284=>KG qq2
 |285=>KG qq1
 |288=>KG qq0
 |289=>KG qqz
 |290=>KG qqx
 |291=>KG qqw
 |294=>KG qqv
 |295=>KG qqu
 |296=>KG qqt
 |_=>fun _=>none
def q4r:Nat->Nat->List Nat
 |20,8=>[11]
 |58,15=>[17]
 |72,11=>[0]
 |_,_=>[]
def q4o:Nat->Nat->List Nat
 |58,15=>[16]
 |58,19=>[16,17]
 |58,24=>[15]
 |163,1=>[2]
 |265,10=>[5]
 |_,_=>[]
def qyD:Nat->Nat->List Nat
 |12,8=>[3,8]
 |12,10=>[3,8]
 |42,3=>[3]
 |97,5=>[5]
 |98,5=>[4]
 |99,3=>[5]
 |104,4=>[1,3]
 |108,4=>[5]
 |109,4=>[3]
 |155,5=>[5]
 |181,16=>[4,5,6,7]
 |259,4=>[3]
 |260,9=>[4,9]
 |283,10=>[14]
 |283,15=>[14]
 |_,_=>[]
def cvT:Nat->Nat->Bool
 |_,_=>false
def lpT:Nat->Nat->Option (List (Nat×Nat)×List Nat)
 |3,36=>some ([(14,8)],[])
 |20,8=>some ([(1,5)],[])
 |26,2=>some ([(2,0)],[])
 |54,2=>some ([(8,4)],[])
 |54,4=>some ([(8,4)],[])
 |58,18=>some ([],[95])
 |58,30=>some ([(20,16)],[])
 |60,6=>some ([(5,7),(5,8)],[])
 |72,8=>some ([(7,9),(12,9)],[])
 |81,11=>some ([(8,5)],[])
 |158,1=>some ([(7,4)],[])
 |161,9=>some ([(18,4)],[])
 |222,1=>some ([],[15])
 |223,1=>some ([],[66])
 |_,_=>none
def alT:Nat->Nat->Option Nat
 |34,6=>some 10
 |224,1=>some 9
 |_,_=>none
def q0S:Nat->Bool
 |7=>true
 |25=>true
 |55=>true
 |56=>true
 |99=>true
 |158=>true
 |_=>false
def q0R:Nat->Bool
 |_=>false
def grT:Nat->Bool
 |7=>true
 |8=>true
 |10=>true
 |13=>true
 |14=>true
 |15=>true
 |16=>true
 |19=>true
 |20=>true
 |26=>true
 |28=>true
 |29=>true
 |33=>true
 |34=>true
 |40=>true
 |41=>true
 |44=>true
 |45=>true
 |47=>true
 |48=>true
 |49=>true
 |53=>true
 |54=>true
 |57=>true
 |58=>true
 |70=>true
 |71=>true
 |72=>true
 |73=>true
 |74=>true
 |75=>true
 |77=>true
 |78=>true
 |79=>true
 |80=>true
 |81=>true
 |83=>true
 |84=>true
 |91=>true
 |92=>true
 |100=>true
 |101=>true
 |103=>true
 |106=>true
 |107=>true
 |119=>true
 |120=>true
 |123=>true
 |125=>true
 |127=>true
 |128=>true
 |129=>true
 |160=>true
 |161=>true
 |182=>true
 |183=>true
 |184=>true
 |222=>true
 |223=>true
 |233=>true
 |266=>true
 |290=>true
 |291=>true
 |294=>true
 |295=>true
 |315=>true
 |_=>false
def qzk:Nat->Bool
 |27=>true
 |97=>true
 |102=>true
 |104=>true
 |105=>true
 |155=>true
 |159=>true
 |162=>true
 |166=>true
 |203=>true
 |221=>true
 |232=>true
 |263=>true
 |_=>false
def q6w:Nat->Bool
 |7=>true
 |8=>true
 |10=>true
 |13=>true
 |14=>true
 |15=>true
 |16=>true
 |19=>true
 |20=>true
 |25=>true
 |26=>true
 |28=>true
 |29=>true
 |33=>true
 |34=>true
 |39=>true
 |40=>true
 |41=>true
 |44=>true
 |45=>true
 |47=>true
 |48=>true
 |49=>true
 |53=>true
 |54=>true
 |55=>true
 |56=>true
 |57=>true
 |58=>true
 |70=>true
 |71=>true
 |72=>true
 |73=>true
 |74=>true
 |75=>true
 |77=>true
 |78=>true
 |79=>true
 |80=>true
 |81=>true
 |83=>true
 |84=>true
 |91=>true
 |92=>true
 |99=>true
 |100=>true
 |101=>true
 |103=>true
 |106=>true
 |107=>true
 |119=>true
 |120=>true
 |123=>true
 |125=>true
 |127=>true
 |128=>true
 |129=>true
 |133=>true
 |158=>true
 |160=>true
 |161=>true
 |179=>true
 |180=>true
 |182=>true
 |183=>true
 |184=>true
 |185=>true
 |194=>true
 |222=>true
 |223=>true
 |224=>true
 |233=>true
 |234=>true
 |266=>true
 |278=>true
 |279=>true
 |280=>true
 |290=>true
 |291=>true
 |294=>true
 |295=>true
 |315=>true
 |_=>false
def q68:Nat->Bool
 |2=>true
 |39=>true
 |89=>true
 |95=>true
 |135=>true
 |136=>true
 |137=>true
 |138=>true
 |139=>true
 |140=>true
 |141=>true
 |142=>true
 |143=>true
 |148=>true
 |149=>true
 |150=>true
 |151=>true
 |152=>true
 |153=>true
 |186=>true
 |189=>true
 |190=>true
 |191=>true
 |196=>true
 |197=>true
 |198=>true
 |199=>true
 |211=>true
 |242=>true
 |253=>true
 |254=>true
 |272=>true
 |332=>true
 |_=>false
def qyW:Nat->Bool
 |17=>true
 |18=>true
 |21=>true
 |23=>true
 |24=>true
 |30=>true
 |36=>true
 |37=>true
 |38=>true
 |42=>true
 |43=>true
 |50=>true
 |51=>true
 |52=>true
 |61=>true
 |62=>true
 |63=>true
 |65=>true
 |66=>true
 |76=>true
 |82=>true
 |88=>true
 |94=>true
 |95=>true
 |96=>true
 |102=>true
 |105=>true
 |114=>true
 |115=>true
 |117=>true
 |118=>true
 |131=>true
 |134=>true
 |145=>true
 |146=>true
 |147=>true
 |154=>true
 |156=>true
 |157=>true
 |162=>true
 |163=>true
 |164=>true
 |165=>true
 |169=>true
 |170=>true
 |171=>true
 |176=>true
 |177=>true
 |192=>true
 |193=>true
 |195=>true
 |200=>true
 |204=>true
 |205=>true
 |206=>true
 |207=>true
 |213=>true
 |221=>true
 |232=>true
 |243=>true
 |244=>true
 |245=>true
 |246=>true
 |249=>true
 |251=>true
 |254=>true
 |257=>true
 |262=>true
 |264=>true
 |271=>true
 |274=>true
 |276=>true
 |277=>true
 |285=>true
 |_=>false
def q4b:Nat->Bool
 |7=>false
 |8=>false
 |22=>false
 |26=>false
 |31=>false
 |33=>false
 |40=>false
 |46=>false
 |47=>false
 |54=>false
 |59=>false
 |60=>false
 |77=>false
 |81=>false
 |83=>false
 |92=>false
 |93=>false
 |100=>false
 |109=>false
 |122=>false
 |132=>false
 |222=>false
 |223=>false
 |289=>false
 |_=>true
def qlf:Nat->List D->Option D
 |121=>qf4
 |212=>qgx
 |210=>qgJ
 |292=>qex
 |_=>fun _=>none
def ql6[TxtC]:Nat->List D->qe->Option (D×qe)
 |211=>qgG
 |254=>qgH
 |95=>qgF
 |179=>TxtC.t 179
 |39=>qgE
 |_=>fun _ _=>none
def gz1:List Int:=[1,10,100,1000,10000,100000,1000000,10000000,100000000,1000000000,10000000000,100000000000,1000000000000,10000000000000,100000000000000,1000000000000000,10000000000000000,100000000000000000,1000000000000000000,10000000000000000000]
def gd1:List D:=gz1.map (D.int .u64)
def gs2:List UInt8:=[105,110,118,97,108,105,100,32,115,121,110,116,97,120]
def gs3:List UInt8:=[118,97,108,117,101,32,111,117,116,32,111,102,32,114,97,110,103,101]
def gz6:List Int:=[0,1,28,2,29,14,24,3,30,22,20,15,25,17,4,8,31,27,13,23,21,19,16,7,26,12,18,6,11,5,10,9]
def gd6:List D:=gz6.map (D.int .u8)
def gz7:List Int:=[0,1,56,2,57,49,28,3,61,58,42,50,38,29,17,4,62,47,59,36,45,43,51,22,53,39,33,30,24,18,12,5,63,55,48,27,60,41,37,16,46,35,44,21,52,32,23,11,54,26,40,15,34,20,31,10,25,14,19,9,13,8,7,6]
def gd7:List D:=gz7.map (D.int .u8)
def qkR[MaxL]:Nat->Option (List D)
 |1=>some gd1
 |2=>some [.iface 375 (.vptr [.str gs2])]
 |3=>some [.iface 375 (.vptr [.str gs3])]
 |6=>some gd6
 |7=>some gd7
 |0=>some [.int .i64 MaxL.m]
 |_=>none
noncomputable def cx[MaxL][TxtC]:Cx:={P:=Tryz.prog,glob:=qkR,keep:=q1F,byRef:=q6w,pureF:=qyW,ext:=qlf,bad:=q68,frz:=q4o,ret:=qyD,fzr:=q4b,con:=ql6,perm:=qzk,dynV:=false,cv:=cvT,lp:=lpT,loc:=q0S,frb:=q4r,al:=alT,lom:=q0R,gr:=grT}
abbrev EK[MaxL][TxtC](f:Nat)(k:Nat->List Nat):Prop:=∀(n0 r:Nat)(e:qu)(H:qe),enter cx f n0 r e H=qdH (k r) 0 n0 e H
abbrev EN[MaxL][TxtC](f r:Nat)(s:List Nat)(k:Nat):Prop:=∀(n0:Nat)(e:qu)(H:qe),enter cx f n0 r e H=qdH s k n0 e H
abbrev qv[MaxL][TxtC](f r:Nat)(s:List Nat):Prop:=EN f r s 0
abbrev CV[MaxL][TxtC](f:Nat):Prop:=∀id,cx.cv f id=false
abbrev LP[MaxL][TxtC](f:Nat):Prop:=∀id,cx.lp f id=none
abbrev FA[MaxL][TxtC](f:Nat)(b p u:Bool):Prop:=cx.byRef f=b/\cx.perm f=p/\cx.pureF f=u
abbrev FZ[MaxL][TxtC](f:Nat)(b p u z:Bool):Prop:=FA f b p u/\cx.fzr f=z
abbrev qB[MaxL][TxtC](f r:Nat):Prop:=cx.lp f r=none
abbrev jp[MaxL][TxtC](f:Nat):Prop:=FZ f false false false true
abbrev qfc[MaxL][TxtC](f:Nat):Prop:=cx.loc f=true
abbrev zN[MaxL][TxtC](f:Nat):Prop:=cx.gr f=true
abbrev qfb[MaxL][TxtC](f:Nat):Prop:=cx.lom f=false
abbrev KD[MaxL][TxtC](f:Nat):Prop:=FZ f true false false false
abbrev zx[MaxL][TxtC](f:Nat):Prop:=cx.loc f=false
abbrev zO[MaxL][TxtC](f:Nat):Prop:=FZ f true false false true
abbrev zZ[MaxL][TxtC](f:Nat):Prop:=FZ f false false true true
abbrev vt[MaxL][TxtC](f:Nat):Prop:=FA f false false false
abbrev Vq[MaxL][TxtC](f:Nat):Prop:=cx.gr f=false
abbrev qcQ[MaxL][TxtC](f:Nat):Prop:=FZ f false true false true
abbrev qbC[MaxL][TxtC](f:Nat):Prop:=FZ f false false false false
abbrev qjM[MaxL][TxtC](f:Nat):Prop:=FA f true false false
abbrev qaD[MaxL][TxtC](f:Nat):Prop:=FA f false false true
abbrev qgd[MaxL][TxtC](f:Nat):Prop:=FZ f false true true true
section
variable [MaxL] [TxtC]
@[simp] theorem ng1:CV 3/\CV 4/\CV 5/\CV 6/\CV 7/\CV 8/\CV 9/\CV 10/\CV 11/\CV 12/\CV 13/\CV 14/\CV 15/\CV 16/\CV 17/\CV 18/\CV 19/\CV 20/\CV 21/\CV 23/\CV 24/\CV 25/\CV 26/\CV 27/\CV 28/\CV 29/\CV 30/\CV 31/\CV 32/\CV 33:=by and_intros<;>exact fun _=>rfl
@[simp] theorem ng2:CV 34/\CV 35/\CV 36/\CV 37/\CV 38/\CV 40/\CV 41/\CV 42/\CV 43/\CV 44/\CV 45/\CV 46/\CV 47/\CV 48/\CV 49/\CV 50/\CV 51/\CV 52/\CV 53/\CV 54/\CV 55/\CV 56/\CV 57/\CV 58/\CV 59/\CV 60/\CV 61/\CV 62/\CV 63/\CV 64:=by and_intros<;>exact fun _=>rfl
@[simp] theorem ng3:CV 65/\CV 66/\CV 67/\CV 68/\CV 69/\CV 70/\CV 71/\CV 72/\CV 73/\CV 74/\CV 75/\CV 76/\CV 77/\CV 78/\CV 79/\CV 80/\CV 81/\CV 82/\CV 83/\CV 84/\CV 85/\CV 86/\CV 87/\CV 88/\CV 91/\CV 92/\CV 93/\CV 94/\CV 96/\CV 97:=by and_intros<;>exact fun _=>rfl
@[simp] theorem ng4:CV 98/\CV 99/\CV 100/\CV 101/\CV 102/\CV 103/\CV 104/\CV 105/\CV 106/\CV 107/\CV 108/\CV 109/\CV 110/\CV 111/\CV 112/\CV 113/\CV 114/\CV 115/\CV 116/\CV 117/\CV 118/\CV 119/\CV 120/\CV 122/\CV 123/\CV 124/\CV 125/\CV 126/\CV 127/\CV 128:=by and_intros<;>exact fun _=>rfl
@[simp] theorem ng5:CV 129/\CV 130/\CV 131/\CV 132/\CV 133/\CV 134/\CV 146/\CV 147/\CV 154/\CV 155/\CV 156/\CV 157/\CV 158/\CV 159/\CV 160/\CV 161/\CV 162/\CV 163/\CV 164/\CV 165/\CV 166/\CV 167/\CV 169/\CV 170/\CV 171/\CV 172/\CV 173/\CV 174/\CV 175/\CV 176:=by and_intros<;>exact fun _=>rfl
@[simp] theorem ng6:CV 177/\CV 178/\CV 180/\CV 181/\CV 182/\CV 183/\CV 184/\CV 185/\CV 195/\CV 200/\CV 203/\CV 204/\CV 205/\CV 206/\CV 207/\CV 213/\CV 215/\CV 216/\CV 219/\CV 220/\CV 221/\CV 222/\CV 223/\CV 224/\CV 225/\CV 226/\CV 227/\CV 229/\CV 230/\CV 231:=by and_intros<;>exact fun _=>rfl
@[simp] theorem ng7:CV 232/\CV 233/\CV 234/\CV 249/\CV 257/\CV 258/\CV 259/\CV 260/\CV 261/\CV 262/\CV 263/\CV 264/\CV 265/\CV 266/\CV 274/\CV 275/\CV 276/\CV 277/\CV 278/\CV 279/\CV 280/\CV 283/\CV 284/\CV 285/\CV 288/\CV 289/\CV 290/\CV 291/\CV 294/\CV 295:=by and_intros<;>exact fun _=>rfl
@[simp] theorem qA3 (id:Nat):cx.cv 296 id=false:=rfl
@[simp] theorem qs1:qB 3 0/\qB 3 1/\qB 3 2/\qB 3 3/\qB 3 4/\qB 3 5/\qB 3 6/\qB 3 7/\qB 3 8/\qB 3 9/\qB 3 10/\qB 3 11/\qB 3 12/\qB 3 13/\qB 3 14/\qB 3 15/\qB 3 16/\qB 3 17/\qB 3 18/\qB 3 19/\qB 3 20/\qB 3 21/\qB 3 22/\qB 3 23/\qB 3 24/\qB 3 25/\qB 3 26/\qB 3 27/\qB 3 28/\qB 3 29/\qB 3 30/\qB 3 31/\qB 3 32/\qB 3 33/\qB 3 34/\qB 3 35:=wL
@[simp] theorem q9O:cx.lp 3 36=some ([(14,8)],[]):=rfl
@[simp] theorem qs2:qB 3 37/\qB 3 38/\qB 3 39:=wL
@[simp] theorem ng9:LP 4/\LP 5/\LP 6/\LP 7/\LP 8/\LP 9/\LP 10/\LP 11/\LP 12/\LP 13/\LP 14/\LP 15/\LP 16/\LP 17/\LP 18/\LP 19:=by and_intros<;>exact fun _=>rfl
@[simp] theorem qs3:qB 20 0/\qB 20 1/\qB 20 2/\qB 20 3/\qB 20 4/\qB 20 5/\qB 20 6/\qB 20 7:=wL
@[simp] theorem q9S:cx.lp 20 8=some ([(1,5)],[]):=rfl
@[simp] theorem qs4:qB 20 9/\qB 20 10/\qB 20 11/\qB 20 12/\qB 20 13/\qB 20 14/\qB 20 15/\qB 20 16:=wL
@[simp] theorem q9B:LP 21/\LP 23/\LP 24/\LP 25:=by and_intros<;>exact fun _=>rfl
@[simp] theorem qs5:qB 26 0/\qB 26 1:=wL
@[simp] theorem q9P:cx.lp 26 2=some ([(2,0)],[]):=rfl
@[simp] theorem qs6:qB 26 3/\qB 26 4/\qB 26 5/\qB 26 6/\qB 26 7/\qB 26 8/\qB 26 9:=wL
@[simp] theorem q9A:LP 27/\LP 28/\LP 29/\LP 30/\LP 31/\LP 32/\LP 33/\LP 34/\LP 35/\LP 36/\LP 37/\LP 38/\LP 40/\LP 41/\LP 42/\LP 43/\LP 44/\LP 45/\LP 46/\LP 47/\LP 48/\LP 49/\LP 50/\LP 51/\LP 52/\LP 53:=by and_intros<;>exact fun _=>rfl
@[simp] theorem qs7:qB 54 0/\qB 54 1:=wL
@[simp] theorem q9N:cx.lp 54 2=some ([(8,4)],[]):=rfl
@[simp] theorem qs8:qB 54 3:=wL
@[simp] theorem q9M:cx.lp 54 4=some ([(8,4)],[]):=rfl
@[simp] theorem qs9:qB 54 5/\qB 54 6/\qB 54 7/\qB 54 8/\qB 54 9/\qB 54 10/\qB 54 11/\qB 54 12/\qB 54 13/\qB 54 14/\qB 54 15/\qB 54 16:=wL
@[simp] theorem q99:LP 55/\LP 56/\LP 57:=by and_intros<;>exact fun _=>rfl
@[simp] theorem q8p:qB 58 0/\qB 58 1/\qB 58 2/\qB 58 3/\qB 58 4/\qB 58 5/\qB 58 6/\qB 58 7/\qB 58 8/\qB 58 9/\qB 58 10/\qB 58 11/\qB 58 12/\qB 58 13/\qB 58 14/\qB 58 15/\qB 58 16/\qB 58 17:=wL
@[simp] theorem q9L:cx.lp 58 18=some ([],[95]):=rfl
@[simp] theorem q8o:qB 58 19/\qB 58 20/\qB 58 21/\qB 58 22/\qB 58 23/\qB 58 24/\qB 58 25/\qB 58 26/\qB 58 27/\qB 58 28/\qB 58 29:=wL
@[simp] theorem q9K:cx.lp 58 30=some ([(20,16)],[]):=rfl
@[simp] theorem q8n:qB 58 31/\qB 58 32/\qB 58 33/\qB 58 34/\qB 58 35/\qB 58 36/\qB 58 37/\qB 58 38/\qB 58 39/\qB 58 40/\qB 58 41/\qB 58 42/\qB 58 43/\qB 58 44/\qB 58 45/\qB 58 46/\qB 58 47/\qB 58 48/\qB 58 49:=wL
@[simp] theorem q9J (id:Nat):cx.lp 59 id=none:=rfl
@[simp] theorem q8m:qB 60 0/\qB 60 1/\qB 60 2/\qB 60 3/\qB 60 4/\qB 60 5:=wL
@[simp] theorem q9I:cx.lp 60 6=some ([(5,7),(5,8)],[]):=rfl
@[simp] theorem q8l:qB 60 7:=wL
@[simp] theorem q98:LP 61/\LP 62/\LP 63/\LP 64/\LP 65/\LP 66/\LP 67/\LP 68/\LP 69/\LP 70/\LP 71:=by and_intros<;>exact fun _=>rfl
@[simp] theorem q8k:qB 72 0/\qB 72 1/\qB 72 2/\qB 72 3/\qB 72 4/\qB 72 5/\qB 72 6/\qB 72 7:=wL
@[simp] theorem q9H:cx.lp 72 8=some ([(7,9),(12,9)],[]):=rfl
@[simp] theorem q8j:qB 72 9/\qB 72 10/\qB 72 11:=wL
@[simp] theorem q97:LP 73/\LP 74/\LP 75/\LP 76/\LP 77/\LP 78/\LP 79/\LP 80:=by and_intros<;>exact fun _=>rfl
@[simp] theorem q8i:qB 81 0/\qB 81 1/\qB 81 2/\qB 81 3/\qB 81 4/\qB 81 5/\qB 81 6/\qB 81 7/\qB 81 8/\qB 81 9/\qB 81 10:=wL
@[simp] theorem q9G:cx.lp 81 11=some ([(8,5)],[]):=rfl
@[simp] theorem q96:LP 82/\LP 83/\LP 84/\LP 85/\LP 86/\LP 87/\LP 88/\LP 91/\LP 92/\LP 93/\LP 94/\LP 96/\LP 97/\LP 98/\LP 99/\LP 100/\LP 101/\LP 102/\LP 103/\LP 104/\LP 105/\LP 106/\LP 107/\LP 108/\LP 109/\LP 110/\LP 111/\LP 112/\LP 113/\LP 114:=by and_intros<;>exact fun _=>rfl
@[simp] theorem q95:LP 115/\LP 116/\LP 117/\LP 118/\LP 119/\LP 120/\LP 122/\LP 123/\LP 124/\LP 125/\LP 126/\LP 127/\LP 128/\LP 129/\LP 130/\LP 131/\LP 132/\LP 133/\LP 134/\LP 146/\LP 147/\LP 154/\LP 155/\LP 156/\LP 157:=by and_intros<;>exact fun _=>rfl
@[simp] theorem q8h:qB 158 0:=wL
@[simp] theorem q9U:cx.lp 158 1=some ([(7,4)],[]):=rfl
@[simp] theorem q94:LP 159/\LP 160:=by and_intros<;>exact fun _=>rfl
@[simp] theorem q8g:qB 161 0/\qB 161 1/\qB 161 2/\qB 161 3/\qB 161 4/\qB 161 5/\qB 161 6/\qB 161 7/\qB 161 8:=wL
@[simp] theorem q9T:cx.lp 161 9=some ([(18,4)],[]):=rfl
@[simp] theorem q8f:qB 161 10/\qB 161 11/\qB 161 12:=wL
@[simp] theorem q93:LP 162/\LP 163/\LP 164/\LP 165/\LP 166/\LP 167/\LP 169/\LP 170/\LP 171/\LP 172/\LP 173/\LP 174/\LP 175/\LP 176/\LP 177/\LP 178/\LP 180/\LP 181/\LP 182/\LP 183/\LP 184/\LP 185/\LP 195/\LP 200/\LP 203/\LP 204/\LP 205/\LP 206/\LP 207/\LP 213:=by and_intros<;>exact fun _=>rfl
@[simp] theorem q91:LP 215/\LP 216/\LP 219/\LP 220/\LP 221:=by and_intros<;>exact fun _=>rfl
@[simp] theorem q8e:qB 222 0:=wL
@[simp] theorem q9R:cx.lp 222 1=some ([],[15]):=rfl
@[simp] theorem q8d:qB 223 0:=wL
@[simp] theorem q9Q:cx.lp 223 1=some ([],[66]):=rfl
@[simp] theorem q90:LP 224/\LP 225/\LP 226/\LP 227/\LP 229/\LP 230/\LP 231/\LP 232/\LP 233/\LP 234/\LP 249/\LP 257/\LP 258/\LP 259/\LP 260/\LP 261/\LP 262/\LP 263/\LP 264/\LP 265/\LP 266/\LP 274/\LP 275/\LP 276/\LP 277/\LP 278/\LP 279/\LP 280/\LP 283/\LP 284:=by and_intros<;>exact fun _=>rfl
@[simp] theorem q9z:LP 285/\LP 288/\LP 289/\LP 290/\LP 291/\LP 294/\LP 295/\LP 296:=by and_intros<;>exact fun _=>rfl
end
def qlX[MaxL][TxtC]:Prop:=∀{f:Nat}{args:List D}{H:qe}{r:D}{H':qe},TxtC.t f args H=some (r,H')->∀{ok:Nat->Prop}{w:World}{ι:qU}{vs:List Value},Sim cx ok w ι H->RepL ok w ι H args vs->Goes cx.P (callFunc f vs.toArray) w (CallPost cx ok w ι H r H')
section
variable [MaxL] [TxtC]
@[simp] theorem cxP:cx.P=Tryz.prog:=rfl
@[simp] theorem cxD:cx.dynV=false:=rfl
@[simp] theorem gl1:cx.glob 1=some gd1:=rfl
@[simp] theorem gl2:cx.glob 2=some [.iface 375 (.vptr [.str gs2])]:=rfl
@[simp] theorem gl3:cx.glob 3=some [.iface 375 (.vptr [.str gs3])]:=rfl
@[simp] theorem gl6:cx.glob 6=some gd6:=rfl
@[simp] theorem gl7:cx.glob 7=some gd7:=rfl
@[simp] theorem q8c:jp 3/\jp 4/\jp 5/\jp 6/\qfc 7/\zN 7/\qfb 7/\KD 7/\zx 8:=wL
@[simp] theorem gr8:cx.gr 8=true:=rfl
@[simp] theorem q8b:KD 8/\jp 9/\zx 10/\zN 10/\zO 10/\jp 11/\jp 12/\zx 13/\zN 13/\zO 13/\zx 14/\zN 14/\zO 14/\zx 15/\zN 15/\zO 15/\zx 16/\zN 16/\zO 16/\zZ 17/\zZ 18/\zx 19/\zN 19/\zO 19/\zx 20/\zN 20/\zO 20/\zZ 21/\vt 22/\zZ 23/\zZ 24/\qfc 25/\Vq 25/\qfb 25/\zO 25/\zx 26/\zN 26/\KD 26/\qcQ 27/\zx 28:=wL
@[simp] theorem q8a:zN 28/\zO 28/\zx 29/\zN 29/\zO 29/\zZ 30/\qbC 31/\jp 32/\zx 33/\zN 33/\KD 33/\zx 34/\zN 34/\zO 34/\jp 35/\zZ 36/\zZ 37/\zZ 38/\qjM 39/\zx 39/\Vq 39/\zx 40/\zN 40/\KD 40/\zx 41/\zN 41/\zO 41/\zZ 42/\zZ 43/\zx 44/\zN 44/\zO 44/\zx 45/\zN 45/\zO 45/\qbC 46/\zx 47/\zN 47/\KD 47/\zx 48:=wL
@[simp] theorem q7Z:zN 48/\zO 48/\zx 49/\zN 49/\zO 49/\zZ 50/\zZ 51/\zZ 52/\zx 53/\zN 53/\zO 53/\zx 54/\zN 54/\KD 54/\qfc 55/\Vq 55/\qfb 55/\zO 55/\qfc 56/\Vq 56/\qfb 56/\zO 56/\zx 57/\zN 57/\zO 57/\zx 58/\zN 58/\zO 58/\qbC 59/\qbC 60/\zZ 61/\zZ 62/\zZ 63/\jp 64/\zZ 65/\zZ 66/\jp 67/\jp 68/\jp 69/\zx 70:=wL
@[simp] theorem q7Y:zN 70/\zO 70/\zx 71/\zN 71/\zO 71/\zx 72/\zN 72/\zO 72/\zx 73/\zN 73/\zO 73/\zx 74/\zN 74/\zO 74/\zx 75/\zN 75/\zO 75/\zZ 76/\zx 77/\zN 77/\KD 77/\zx 78/\zN 78/\zO 78/\zx 79/\zN 79/\zO 79/\zx 80/\zN 80/\zO 80/\zx 81/\zN 81/\KD 81/\zZ 82/\zx 83/\zN 83/\KD 83/\zx 84/\zN 84/\zO 84:=wL
@[simp] theorem q7X:jp 85/\jp 86/\jp 87/\zZ 88/\vt 90/\zx 91/\zN 91/\zO 91/\zx 92/\zN 92/\KD 92/\qbC 93/\zZ 94/\qaD 95/\zZ 96/\qcQ 97/\jp 98/\qfc 99/\Vq 99/\qfb 99/\zO 99/\zx 100/\zN 100/\KD 100/\zx 101/\zN 101/\zO 101/\qgd 102/\zx 103/\zN 103/\zO 103/\qcQ 104/\qgd 105/\zx 106/\zN 106/\zO 106/\zx 107/\zN 107/\zO 107/\jp 108:=wL
@[simp] theorem q7W:qbC 109/\jp 110/\jp 111/\jp 112/\jp 113/\zZ 114/\zZ 115/\jp 116/\zZ 117/\zZ 118/\zx 119/\zN 119/\zO 119/\zx 120/\zN 120/\zO 120/\vt 121/\qbC 122/\zx 123/\zN 123/\zO 123/\jp 124/\zx 125/\zN 125/\zO 125/\jp 126/\zx 127/\zN 127/\zO 127/\zx 128/\zN 128/\zO 128/\zx 129/\zN 129/\zO 129/\jp 130/\zZ 131/\qbC 132/\zx 133/\Vq 133:=wL
@[simp] theorem q7U:zO 133/\zZ 134/\vt 144/\qaD 145/\zZ 146/\zZ 147/\zZ 154/\qcQ 155/\zZ 156/\zZ 157/\qfc 158/\Vq 158/\qfb 158/\zO 158/\qcQ 159/\zx 160/\zN 160/\zO 160/\zx 161/\zN 161/\zO 161/\qgd 162/\zZ 163/\zZ 164/\zZ 165/\qcQ 166/\jp 167/\vt 168/\zZ 169/\zZ 170/\zZ 171/\jp 172/\jp 173/\jp 174/\jp 175/\zZ 176/\zZ 177/\jp 178/\qjM 179/\zx 179:=wL
@[simp] theorem q7T:Vq 179/\zx 180/\Vq 180/\zO 180/\jp 181/\zx 182/\zN 182/\zO 182/\zx 183/\zN 183/\zO 183/\zx 184/\zN 184/\zO 184/\zx 185/\Vq 185/\zO 185/\vt 187/\vt 188/\qaD 192/\qaD 193/\qjM 194/\zx 194/\Vq 194/\zZ 195/\zZ 200/\vt 201/\vt 202/\qcQ 203/\zZ 204/\zZ 205/\zZ 206/\zZ 207/\vt 208/\vt 209/\vt 210/\vt 211/\vt 212/\zZ 213/\vt 214:=wL
@[simp] theorem q7S:jp 215/\jp 216/\vt 217/\vt 218/\jp 219/\jp 220/\qgd 221/\zx 222/\zN 222/\KD 222/\zx 223/\zN 223/\KD 223/\zx 224/\Vq 224/\zO 224/\jp 225/\jp 226/\jp 227/\vt 228/\jp 229/\jp 230/\jp 231/\qgd 232/\zx 233/\zN 233/\zO 233/\zx 234/\Vq 234/\zO 234/\vt 235/\vt 236/\vt 237/\vt 238/\vt 239/\vt 240/\vt 241/\qaD 243/\qaD 244/\qaD 245:=wL
@[simp] theorem q7R:qaD 246/\zZ 249/\vt 250/\vt 252/\qaD 254/\vt 255/\vt 256/\zZ 257/\jp 258/\jp 259/\jp 260/\jp 261/\zZ 262/\qcQ 263/\zZ 264/\jp 265/\zx 266/\zN 266/\zO 266/\vt 267/\vt 268/\vt 269/\vt 270/\qaD 271/\vt 273/\zZ 274/\jp 275/\zZ 276/\zZ 277/\zx 278/\Vq 278/\zO 278/\zx 279/\Vq 279/\zO 279/\zx 280/\Vq 280/\zO 280/\vt 281/\vt 282:=wL
@[simp] theorem q7Q:jp 283/\jp 284/\zZ 285/\vt 287/\jp 288/\qbC 289/\zx 290/\zN 290/\zO 290/\zx 291/\zN 291/\zO 291/\vt 292/\vt 293/\zx 294/\zN 294/\zO 294/\zx 295/\zN 295/\zO 295/\jp 296:=wL
end
theorem quv[MaxL][TxtC](args:List D):cx.ext 121 args=qf4 args:=rfl
theorem qut[MaxL][TxtC](args:List D):cx.ext 212 args=qgx args:=rfl
theorem quu[MaxL][TxtC](args:List D):cx.ext 210 args=qgJ args:=rfl
theorem qus[MaxL][TxtC](args:List D):cx.ext 292 args=qex args:=rfl
theorem qvv[MaxL][TxtC](args:List D)(H:qe):cx.con 211 args H=qgG args H:=rfl
theorem qvu[MaxL][TxtC](args:List D)(H:qe):cx.con 254 args H=qgH args H:=rfl
theorem qvs[MaxL][TxtC](args:List D)(H:qe):cx.con 95 args H=qgF args H:=rfl
theorem q5N[MaxL][TxtC](args:List D)(H:qe):cx.con 179 args H=TxtC.t 179 args H:=rfl
theorem qvt[MaxL][TxtC](args:List D)(H:qe):cx.con 39 args H=qgE args H:=rfl
end Go.Ev.S
namespace Go.Ev.S
open Go Go.Proofs Go.Ev
@[simp] theorem q9y [MaxL] [TxtC]:EK 4 kl4/\EK 5 kl5/\EK 6 kl6/\EK 7 kl7/\EK 8 kl8/\EK 9 kl9/\EK 10 qsz:=by and_intros<;>exact fun _ _ _ _=>rfl
@[simp] theorem q9x [MaxL] [TxtC]:EK 13 qrX/\EK 14 qrR/\EK 15 qrO/\EK 16 qrI/\EK 17 qr9/\EK 18 qrz/\EK 19 qrt:=by and_intros<;>exact fun _ _ _ _=>rfl
@[simp] theorem q9w [MaxL] [TxtC]:qv 20 0 [0,1,2,3]/\qv 20 1 [0,1,2,3]/\qv 20 2 [0,2,3,9,10]/\qv 20 3 [10]/\qv 20 4 [0,2,3,9]/\qv 20 5 [0,2,3,9,11]/\qv 20 6 [0,9,11,12]/\qv 20 7 [12]:=by and_intros<;>exact fun _ _ _=>rfl
@[simp] theorem qAt [MaxL] [TxtC] (n0:Nat) (e:qu) (H:qe):enter cx 20 n0 8 e H=qiu [11] (qdH [0,9,11] 0 n0 e) e H:=rfl
@[simp] theorem q9v [MaxL] [TxtC]:qv 20 9 [0,9,11,13]/\qv 20 10 [0,9,11,13,15]/\qv 20 11 []/\qv 20 12 [0,9,11]/\qv 20 13 [9,11,16]/\qv 20 14 [16]/\qv 20 15 [9,11]/\qv 20 16 []:=by and_intros<;>exact fun _ _ _=>rfl
@[simp] theorem q9u [MaxL] [TxtC]:EK 21 qrl/\EK 23 qqX/\EK 24 qqP/\EK 25 qqM/\EK 26 qqJ/\EK 27 qqB/\EK 28 qq4/\EK 29 qqy/\EK 30 qqs/\EK 31 qqr/\EK 32 qqq/\EK 33 qqp/\EK 34 qqo/\EK 35 qqn/\EK 38 qqm/\EK 40 qqk/\EK 41 qqj:=by and_intros<;>exact fun _ _ _ _=>rfl
@[simp] theorem q9t [MaxL] [TxtC]:qv 42 0 [0]/\qv 42 1 [1]/\qv 42 2 [1,3]:=by and_intros<;>exact fun _ _ _=>rfl
@[simp] theorem qAm [MaxL] [TxtC] (n0:Nat) (e:qu) (H:qe):enter cx 42 n0 3 e H=Xm [] [3] [6,7] n0 e H:=rfl
@[simp] theorem q9s [MaxL] [TxtC]:qv 42 4 [3,6,7]/\qv 42 5 [3,5,6,7]/\qv 42 6 [3,6,7]/\qv 42 7 [3]:=by and_intros<;>exact fun _ _ _=>rfl
@[simp] theorem q9q [MaxL] [TxtC]:EK 43 qqi/\EK 44 qqh/\EK 45 qqg/\EK 46 qqf/\EK 47 qqe/\EK 48 qqd/\EK 49 qqc/\EK 50 qqa/\EK 51 qpZ/\EK 52 qpY/\EK 53 qpX/\EK 54 qpW/\EK 55 qpV/\EK 56 qpU/\EK 57 qpT:=by and_intros<;>exact fun _ _ _ _=>rfl
@[simp] theorem q9p [MaxL] [TxtC]:qv 58 0 [0,1,2,3,4]/\qv 58 1 [0,1,2,3,9]/\qv 58 2 [0,2,3,9,12,13]/\qv 58 3 [13]/\qv 58 4 [0,2,3,9,12]/\qv 58 5 []/\qv 58 6 [0,2,3,9,12]/\qv 58 7 [0,2,3,9,12,14]/\qv 58 8 [0,2,3,9,12,14,15]/\qv 58 9 [0,2,3,9,12,14,15,16]/\qv 58 10 [0,2,3,9,12,14,15,16,17]/\qv 58 11 [0,2,3,9,12,14,15,16,17,18]/\qv 58 12 [0,2,3,9,12,14,15,16,17,18]/\qv 58 13 [0,2,3,9,12,14,15,16,17,18]/\qv 58 14 [0,2,3,9,12,14,15,16,17,18,19]:=by and_intros<;>exact fun _ _ _=>rfl
@[simp] theorem qAl [MaxL] [TxtC] (n0:Nat) (e:qu) (H:qe):enter cx 58 n0 15 e H=qiu [17] (qf0 [16] [0,2,3,9,12,14,15,16,17,18,19] 0 n0 e) e H:=rfl
@[simp] theorem q9o [MaxL] [TxtC]:qv 58 16 [0,2,3,9,12,14,15,16,17,18,19,20]/\qv 58 17 [0,2,3,9,12,14,15,16,17,18,19,20]/\qv 58 18 [0,2,3,9,12,14,15,16,17,18,19,20]:=by and_intros<;>exact fun _ _ _=>rfl
@[simp] theorem qAk [MaxL] [TxtC] (n0:Nat) (e:qu) (H:qe):enter cx 58 n0 19 e H=qf0 [16,17] [0,2,3,9,14,15,16,17] 0 n0 e H:=rfl
@[simp] theorem q9n [MaxL] [TxtC]:qv 58 20 [0,2,3,9,14,15,16,17,21]/\qv 58 21 [0,2,3,9,14,15,16,17,21]/\qv 58 22 [0,2,3,9,14,15,16,17,21]/\qv 58 23 [0,2,3,9,14,15,16,17,21,22]:=by and_intros<;>exact fun _ _ _=>rfl
@[simp] theorem qAj [MaxL] [TxtC] (n0:Nat) (e:qu) (H:qe):enter cx 58 n0 24 e H=qf0 [15] [0,2,3,9,14,15,16,17] 0 n0 e H:=rfl
@[simp] theorem q9m [MaxL] [TxtC]:qv 58 25 [0,2,3,9,14,15,16,17,23]/\qv 58 26 [0,2,3,9,14,16,23,24]/\qv 58 27 [0,2,3,9,14,16,23,24]/\qv 58 28 [0,2,3,9,14,16,23,24,26]/\qv 58 29 [0,2,3,9,14,16,23,24,25,26]/\qv 58 30 [0,2,3,9,14,16,23,24,25,26]/\qv 58 31 [0,2,3,9,14,16,23,24,26]/\qv 58 32 [0,2,3,9,14,16,23,24,26,27]/\qv 58 33 [0,2,3,9,14,16,23,24,26,27]/\qv 58 34 [0,2,3,9,14,16,23,24,26,27]/\qv 58 35 [0,2,3,9,14,16,23,24,26,27,28]/\qv 58 36 [0,2,3,9,14,16,23,24,26,27,28]/\qv 58 37 [0,2,3,9,14,16,23,24,26,27,28]/\qv 58 38 [0,2,3,9,14,16,23,24,26,27,28]/\qv 58 39 [0,2,3,9,14,16,23,24,26,27,28]/\qv 58 40 [0,2,3,9,14,16,23,24,26,27,28]/\qv 58 41 [0,2,3,9,14,23,24,26]/\qv 58 42 [0,14]/\qv 58 43 []/\qv 58 44 [0,2,3,9,23,24,26]/\qv 58 45 [0,2,3,9,23,24]/\qv 58 46 [0,2,3,9,23,24]/\qv 58 47 [0,2,3,9,23,24]/\qv 58 48 [0,9,23,24]/\qv 58 49 [23]:=by and_intros<;>exact fun _ _ _=>rfl
@[simp] theorem q9l [MaxL] [TxtC]:EK 59 qpS/\EK 60 qpQ/\EK 61 qpP/\EK 62 qpO/\EK 63 qpN/\EK 64 qpM/\EK 65 qpL/\EK 66 qpK/\EK 67 qpJ/\EK 68 qpI/\EK 69 qpH/\EK 70 qpF/\EK 71 qpE:=by and_intros<;>exact fun _ _ _ _=>rfl
@[simp] theorem q9k [MaxL] [TxtC]:qv 72 0 [0]/\qv 72 1 [0]/\qv 72 2 [0]/\qv 72 3 [0,3]/\qv 72 4 [0,3,16,17]/\qv 72 5 [0,3,16,17]/\qv 72 6 [0,3,4,16,17]/\qv 72 7 [0,3,4,5,6,16,17]/\qv 72 8 [0,4,5,16,17]/\qv 72 9 [0,3,16,17]/\qv 72 10 [0]:=by and_intros<;>exact fun _ _ _=>rfl
@[simp] theorem qAi [MaxL] [TxtC] (n0:Nat) (e:qu) (H:qe):enter cx 72 n0 11 e H=qiu [0] (qdH [0] 0 n0 e) e H:=rfl
@[simp] theorem q9j [MaxL] [TxtC]:EK 73 qpD/\EK 74 qpC/\EK 75 qpB/\EK 76 qpA/\EK 77 qp9/\EK 78 qp8/\EK 79 qp7/\EK 80 qp5/\EK 81 qp4/\EK 82 qp3/\EK 83 qp2/\EK 84 qp1/\EK 85 qp0/\EK 86 qpz/\EK 87 qpy/\EK 91 qpw/\EK 92 qpv/\EK 93 qpu/\EK 94 qpt/\EK 96 qps:=by and_intros<;>exact fun _ _ _ _=>rfl
@[simp] theorem q9i [MaxL] [TxtC]:qv 97 0 [0,1]/\qv 97 1 [0,1]/\qv 97 2 []/\qv 97 3 [0,1]/\qv 97 4 [0,1,5]:=by and_intros<;>exact fun _ _ _=>rfl
@[simp] theorem qAh [MaxL] [TxtC] (n0:Nat) (e:qu) (H:qe):enter cx 97 n0 5 e H=Xm [] [5] [0,1,6] n0 e H:=rfl
@[simp] theorem q9h [MaxL] [TxtC]:qv 97 6 [0,1,5,6]/\qv 97 7 [0,1,5,6]/\qv 97 8 [0,5]:=by and_intros<;>exact fun _ _ _=>rfl
@[simp] theorem q9f [MaxL] [TxtC]:qv 98 0 [0]/\qv 98 1 [0]/\qv 98 2 []/\qv 98 3 [0]/\qv 98 4 [0,4]:=by and_intros<;>exact fun _ _ _=>rfl
@[simp] theorem qAg [MaxL] [TxtC] (n0:Nat) (e:qu) (H:qe):enter cx 98 n0 5 e H=Xm [] [4] [0,5] n0 e H:=rfl
@[simp] theorem q9e [MaxL] [TxtC]:qv 98 6 [0,4,5]/\qv 98 7 [0,4,5]/\qv 98 8 [0,4,5,7]/\qv 98 9 [7]/\qv 98 10 [0,4,5]/\qv 98 11 [0,4,5,8]/\qv 98 12 [0,4,5,8]/\qv 98 13 [0,4,5,8]/\qv 98 14 [0,4,5,8]/\qv 98 15 [0,4,5,8]/\qv 98 16 [0,4,5,8,9]/\qv 98 17 [0,4,5,8,9]/\qv 98 18 [0,4,5,8,9]/\qv 98 19 [0,4,5,8]/\qv 98 20 [4]/\qv 98 21 []/\qv 98 22 [4]:=by and_intros<;>exact fun _ _ _=>rfl
@[simp] theorem q9d [MaxL] [TxtC]:qv 99 0 [0,1]/\qv 99 1 [0,1]/\qv 99 2 [0,1,5]:=by and_intros<;>exact fun _ _ _=>rfl
@[simp] theorem qAf [MaxL] [TxtC] (n0:Nat) (e:qu) (H:qe):enter cx 99 n0 3 e H=Xm [] [5] [0,6] n0 e H:=rfl
@[simp] theorem q9c [MaxL] [TxtC]:qv 99 4 [0,5,6]/\qv 99 5 [0,5,6]/\qv 99 6 [5]:=by and_intros<;>exact fun _ _ _=>rfl
@[simp] theorem q9b [MaxL] [TxtC]:EK 100 qsy/\EK 101 qsx/\EK 102 qsw/\EK 103 qsv:=by and_intros<;>exact fun _ _ _ _=>rfl
@[simp] theorem q9a [MaxL] [TxtC]:qv 104 0 [0]/\qv 104 1 [1]/\qv 104 2 [1,3]/\qv 104 3 [1,3]:=by and_intros<;>exact fun _ _ _=>rfl
@[simp] theorem qA0 [MaxL] [TxtC] (n0:Nat) (e:qu) (H:qe):enter cx 104 n0 4 e H=Xm [] [1,3] [4] n0 e H:=rfl
@[simp] theorem q8Z [MaxL] [TxtC]:qv 104 5 [1,3,4]/\qv 104 6 [1,3,4]/\qv 104 7 [3]:=by and_intros<;>exact fun _ _ _=>rfl
@[simp] theorem q8Y [MaxL] [TxtC]:EK 105 qsu/\EK 106 qst/\EK 107 qss:=by and_intros<;>exact fun _ _ _ _=>rfl
@[simp] theorem q8X [MaxL] [TxtC]:qv 108 0 [0,1]/\qv 108 1 [0,1]/\qv 108 2 [0,1,5]/\qv 108 3 [0,1,5,6]:=by and_intros<;>exact fun _ _ _=>rfl
@[simp] theorem qAz [MaxL] [TxtC] (n0:Nat) (e:qu) (H:qe):enter cx 108 n0 4 e H=Xm [] [5] [0,1,6] n0 e H:=rfl
@[simp] theorem q8W [MaxL] [TxtC]:qv 108 5 [0,1,5,6]/\qv 108 6 [0,1,5,6]/\qv 108 7 [5]:=by and_intros<;>exact fun _ _ _=>rfl
@[simp] theorem q8U [MaxL] [TxtC]:qv 109 0 [0]/\qv 109 1 [0]/\qv 109 2 [0,3]/\qv 109 3 [0,3,4]:=by and_intros<;>exact fun _ _ _=>rfl
@[simp] theorem qAy [MaxL] [TxtC] (n0:Nat) (e:qu) (H:qe):enter cx 109 n0 4 e H=Xm [] [3] [0,4] n0 e H:=rfl
@[simp] theorem q8T [MaxL] [TxtC]:qv 109 5 [0,3,4]/\qv 109 6 [3]:=by and_intros<;>exact fun _ _ _=>rfl
@[simp] theorem q8S [MaxL] [TxtC]:EK 110 qsr/\EK 111 qsq/\EK 112 qsp/\EK 113 qso/\EK 114 qsn/\EK 115 qsm/\EK 116 qsl/\EK 117 qsk/\EK 118 qsi/\EK 119 qsh/\EK 120 qsg/\EK 122 qsf/\EK 123 qse/\EK 124 qsd/\EK 125 qsc/\EK 126 qsb/\EK 127 qsa/\EK 128 qrZ/\EK 129 qrY/\EK 130 qrW/\EK 131 qrV/\EK 132 qrU/\EK 133 qrT/\EK 134 qrS/\EK 146 qrQ/\EK 147 qrP/\EK 154 qrN:=by and_intros<;>exact fun _ _ _ _=>rfl
@[simp] theorem q8R [MaxL] [TxtC]:qv 155 0 [0,1]/\qv 155 1 [0,1]/\qv 155 2 []/\qv 155 3 [0,1]/\qv 155 4 [1,5]:=by and_intros<;>exact fun _ _ _=>rfl
@[simp] theorem qAx [MaxL] [TxtC] (n0:Nat) (e:qu) (H:qe):enter cx 155 n0 5 e H=Xm [] [5] [] n0 e H:=rfl
@[simp] theorem q8Q [MaxL] [TxtC]:qv 155 6 [5]/\qv 155 7 [5]:=by and_intros<;>exact fun _ _ _=>rfl
@[simp] theorem q8P [MaxL] [TxtC]:EK 156 qrM/\EK 157 qrL/\EK 158 qrK/\EK 159 qrJ/\EK 160 qrH/\EK 161 qrG/\EK 162 qrF:=by and_intros<;>exact fun _ _ _ _=>rfl
@[simp] theorem qAw [MaxL] [TxtC] (n0:Nat) (e:qu) (H:qe):enter cx 163 n0 0 e H=qdH [0,1] 0 n0 e H:=rfl
@[simp] theorem qAv [MaxL] [TxtC] (n0:Nat) (e:qu) (H:qe):enter cx 163 n0 1 e H=qf0 [2] [1,2] 0 n0 e H:=rfl
@[simp] theorem q8O [MaxL] [TxtC]:qv 163 2 [1,5,6]/\qv 163 3 [1,7]/\qv 163 4 [1,7,8]/\qv 163 5 [1,7,8]/\qv 163 6 [1,7,8,9]/\qv 163 7 [1,7,8,9]/\qv 163 8 [1,7,8,9]/\qv 163 9 [1,7,8]/\qv 163 10 [1,7,8]/\qv 163 11 [7,10]/\qv 163 12 [7,10]/\qv 163 13 [7,10]/\qv 163 14 [7]/\qv 163 15 [7]/\qv 163 16 [7]:=by and_intros<;>exact fun _ _ _=>rfl
@[simp] theorem q8N [MaxL] [TxtC]:EK 164 qrE/\EK 165 qrD/\EK 166 qrC/\EK 167 qrB/\EK 169 qrA/\EK 170 qr8/\EK 171 qr7/\EK 172 qr6/\EK 173 qr5/\EK 174 qr4/\EK 175 qr3/\EK 176 qr2/\EK 177 qr1/\EK 178 qr0/\EK 180 qry:=by and_intros<;>exact fun _ _ _ _=>rfl
@[simp] theorem q8M [MaxL] [TxtC]:qv 181 0 [0,1]/\qv 181 1 [0,1,4]/\qv 181 2 [0,4,5]/\qv 181 3 [0,4,5,6]/\qv 181 4 [0,4,5,6]/\qv 181 5 [0,4,5,6]/\qv 181 6 [0,4,5,6,7]/\qv 181 7 [0,4,5,6,7,32,33,34]/\qv 181 8 [0,4,5,6,7,32,33,34]/\qv 181 9 [0,4,5,6,7,9,32,33,34]/\qv 181 10 [0,4,5,6,7,9,10,32,33,34]/\qv 181 11 [0,4,5,6,7,10,32,33,34]/\qv 181 12 [0,4,5,6,7,10,32,33,34]/\qv 181 13 [0,4,5,6,7,10,11,12,32,33,34]/\qv 181 14 [0,4,5,6,7,10,11,32,33,34]/\qv 181 15 [0,4,5,6,7,10,32,33,34]:=by and_intros<;>exact fun _ _ _=>rfl
@[simp] theorem qAu [MaxL] [TxtC] (n0:Nat) (e:qu) (H:qe):enter cx 181 n0 16 e H=Xm [] [4,5,6,7] [0,32,33,34] n0 e H:=rfl
@[simp] theorem q8K [MaxL] [TxtC]:qv 181 17 [4,5,6,7]/\qv 181 18 [4,6]/\qv 181 19 [4,6]:=by and_intros<;>exact fun _ _ _=>rfl
@[simp] theorem q8J [MaxL] [TxtC]:EK 182 qrx/\EK 183 qrw/\EK 184 qrv/\EK 185 qru/\EK 195 qrs/\EK 200 qrr/\EK 203 qrq/\EK 204 qrp/\EK 205 qro/\EK 206 qrn/\EK 207 qrm/\EK 213 qrk/\EK 215 qrj/\EK 216 qri/\EK 219 qrh/\EK 220 qrg/\EK 221 qrf/\EK 222 qre/\EK 223 qrd/\EK 224 qrc/\EK 225 qrb/\EK 226 qra/\EK 227 qqZ/\EK 229 qqY/\EK 230 qqW/\EK 231 qqV/\EK 232 qqS/\EK 233 qqR/\EK 234 qqQ/\EK 249 qqO/\EK 257 qqL/\EK 258 qqK:=by and_intros<;>exact fun _ _ _ _=>rfl
@[simp] theorem q8I [MaxL] [TxtC]:qv 259 0 [0]/\qv 259 1 [0]/\qv 259 2 [0,3]/\qv 259 3 [0,3,4]:=by and_intros<;>exact fun _ _ _=>rfl
@[simp] theorem qAs [MaxL] [TxtC] (n0:Nat) (e:qu) (H:qe):enter cx 259 n0 4 e H=Xm [] [3] [0,4] n0 e H:=rfl
@[simp] theorem q8H [MaxL] [TxtC]:qv 259 5 [0,3,4]/\qv 259 6 [0,3,4,5]/\qv 259 7 [3]:=by and_intros<;>exact fun _ _ _=>rfl
@[simp] theorem q8G [MaxL] [TxtC]:qv 260 0 [0,1]/\qv 260 1 [0,1,4]/\qv 260 2 [4,6,7]/\qv 260 3 [4,7]/\qv 260 4 [4,6]/\qv 260 5 [4,6,8]/\qv 260 6 [4,6,8,9]/\qv 260 7 [4,8,9]/\qv 260 8 [4,8,9,10]:=by and_intros<;>exact fun _ _ _=>rfl
@[simp] theorem qAr [MaxL] [TxtC] (n0:Nat) (e:qu) (H:qe):enter cx 260 n0 9 e H=Xm [] [4,9] [8,10] n0 e H:=rfl
@[simp] theorem q8F [MaxL] [TxtC]:qv 260 10 [4,8,9,10]/\qv 260 11 [4,9]/\qv 260 12 [4]/\qv 260 13 [4,9]/\qv 260 14 [4,9,11]/\qv 260 15 [4,9,11]/\qv 260 16 [4,9,11]/\qv 260 17 [4]/\qv 260 18 [4,9]:=by and_intros<;>exact fun _ _ _=>rfl
@[simp] theorem q8E [MaxL] [TxtC]:EK 261 qqI/\EK 262 qqH/\EK 263 qqF/\EK 264 qqE:=by and_intros<;>exact fun _ _ _ _=>rfl
@[simp] theorem q8D [MaxL] [TxtC]:qv 265 0 [0]/\qv 265 1 [0]/\qv 265 2 [0,3]/\qv 265 3 [0,4]/\qv 265 4 [0,4]/\qv 265 5 [0,4]/\qv 265 6 [0,4]/\qv 265 7 [0,4]/\qv 265 8 [0,4]/\qv 265 9 [0,4,5]:=by and_intros<;>exact fun _ _ _=>rfl
@[simp] theorem qAq [MaxL] [TxtC] (n0:Nat) (e:qu) (H:qe):enter cx 265 n0 10 e H=qf0 [5] [4,5] 0 n0 e H:=rfl
@[simp] theorem q8C [MaxL] [TxtC]:qv 265 11 [4]/\qv 265 12 [4]:=by and_intros<;>exact fun _ _ _=>rfl
@[simp] theorem q8B [MaxL] [TxtC]:EK 266 qqD/\EK 274 qqA/\EK 275 qq9/\EK 276 qq8/\EK 277 qq7/\EK 278 qq6/\EK 279 qq5/\EK 280 qq3:=by and_intros<;>exact fun _ _ _ _=>rfl
@[simp] theorem q89 [MaxL] [TxtC]:qv 283 0 [0,1,2,3]/\qv 283 1 [0,1,2,3]/\qv 283 2 [0,1,2,3,11,12]/\qv 283 3 [12]/\qv 283 4 [0,1,2,3,11]/\qv 283 5 []/\qv 283 6 [0,1,3,11]/\qv 283 7 []/\qv 283 8 [0,1,3,11]/\qv 283 9 [3,13]:=by and_intros<;>exact fun _ _ _=>rfl
@[simp] theorem qAp [MaxL] [TxtC] (n0:Nat) (e:qu) (H:qe):enter cx 283 n0 10 e H=Xm [] [14] [3,13] n0 e H:=rfl
@[simp] theorem q88 [MaxL] [TxtC]:qv 283 11 [3,13,14,49,50]/\qv 283 12 [3,13,14,49,50]/\qv 283 13 [3,13,14,15,49,50]/\qv 283 14 [3,13,14,16,49,50]:=by and_intros<;>exact fun _ _ _=>rfl
@[simp] theorem qAo [MaxL] [TxtC] (n0:Nat) (e:qu) (H:qe):enter cx 283 n0 15 e H=Xm [] [14] [3,13,49,50] n0 e H:=rfl
@[simp] theorem qAn [MaxL] [TxtC] (n0:Nat) (e:qu) (H:qe):enter cx 283 n0 16 e H=qdH [3,13,14] 0 n0 e H:=rfl
@[simp] theorem q87 [MaxL] [TxtC]:EK 284 qq2/\EK 285 qq1/\EK 288 qq0/\EK 289 qqz/\EK 290 qqx/\EK 291 qqw/\EK 294 qqv/\EK 295 qqu/\EK 296 qqt:=by and_intros<;>exact fun _ _ _ _=>rfl
abbrev qD(n s:Nat)(a:Bool)(b:Nat)(z:D):Prop:=qw Tryz.prog n=s/\Kv Tryz.prog n=some a/\bytesOf Tryz.prog n=b/\Xu Tryz.prog n=some z
abbrev qqC(n:Nat):Prop:=qlC Tryz.prog n=true
abbrev qqG(n:Nat):Prop:=Tryz.prog.eqGuardType Tryz.prog.depth n=false
abbrev jf(n:Nat)(u:TypeDesc):Prop:=Tryz.prog.underlying n=some u
@[simp] theorem q7P:qD 1 1 false 8 (.nilf)/\qD 2 1 false 8 (.int .i64 0)/\qqC 2/\jf 2 (.int .i64)/\qD 3 1 false 8 (.int .i64 0)/\qqC 3:=wS
@[simp] theorem un3:Tryz.prog.underlying 3=some (.int .i64):=wF
attribute [simp] Tryz.underlying20
@[simp] theorem q7O:qD 4 1 false 1 (.bool false)/\jf 4 .bool/\qD 5 1 false 1 (.int .u8 0)/\qqC 5/\jf 5 (.int .u8)/\qD 9 1 false 16 (.str [])/\jf 9 .string/\qD 20 1 false 16 (.nili)/\qD 21 1 false 4 (.int .i32 0)/\qqC 21/\jf 21 (.int .i32)/\qD 22 1 false 24 (.vsl true [] 0):=wS
@[simp] theorem qwD:Tryz.prog.underlying 22=some (.slice 23):=wF
@[simp] theorem q7N:qD 23 1 false 24 (.vsl true [] 0):=wS
@[simp] theorem qmr:Tryz.prog.underlying 23=some (.slice 3):=wF
attribute [simp] Tryz.underlying39 Tryz.underlying40 Tryz.underlying44 Tryz.underlying45 Tryz.underlying46 Tryz.underlying47 Tryz.underlying51 Tryz.underlying52 Tryz.underlying53 Tryz.underlying54 Tryz.underlying56 Tryz.underlying57 Tryz.underlying75 Tryz.underlying76 Tryz.underlying79 Tryz.underlying99 Tryz.underlying100 Tryz.underlying103 Tryz.underlying104 Tryz.underlying107 Tryz.underlying108 Tryz.underlying119 Tryz.underlying120 Tryz.underlying123 Tryz.underlying124 Tryz.underlying133 Tryz.underlying134 Tryz.underlying136 Tryz.underlying137 Tryz.underlying153 Tryz.underlying154 Tryz.underlying160 Tryz.underlying161 Tryz.underlying170 Tryz.underlying171 Tryz.underlying180 Tryz.underlying181 Tryz.underlying187 Tryz.underlying188 Tryz.underlying201 Tryz.underlying202 Tryz.underlying203 Tryz.underlying204 Tryz.underlying206 Tryz.underlying207 Tryz.underlying211 Tryz.underlying212 Tryz.underlying219 Tryz.underlying220 Tryz.underlying226 Tryz.underlying227 Tryz.underlying262 Tryz.underlying263 Tryz.underlying269 Tryz.underlying270 Tryz.underlying276 Tryz.underlying277 Tryz.underlying285 Tryz.underlying309 Tryz.underlying310 Tryz.underlying332 Tryz.underlying333 Tryz.underlying336 Tryz.underlying337 Tryz.underlying339 Tryz.underlying340 Tryz.underlying358 Tryz.underlying359 Tryz.underlying371 Tryz.underlying372 Tryz.underlying376 Tryz.underlying377 Tryz.underlying378 Tryz.underlying379 Tryz.underlying384 Tryz.underlying385 Tryz.underlying400 Tryz.underlying401
@[simp] theorem q7M:qD 26 1 false 8 (.nilp)/\jf 26 (.pointer 104)/\qD 28 1 false 24 (.vsl true [] 0)/\jf 28 (.slice 57)/\qD 29 1 false 24 (.vsl true [] 0)/\jf 29 (.slice 9)/\qD 32 1 false 24 (.vsl true [] 0)/\jf 32 (.slice 40)/\qD 34 1 false 24 (.vsl true [] 0)/\jf 34 (.slice 47)/\qD 36 16 true 16 (.agg (qI []))/\jf 36 (.array 16 5)/\qD 37 16 true 16 (.agg (qI []))/\jf 37 (.array 16 5)/\qD 38 1 false 8 (.int .u64 0)/\qqC 38/\jf 38 (.int .u64)/\qD 39 19 true 40 (.agg (qI [.int .u64 0,.int .u64 0,.int .u64 0]))/\qD 40 19 true 40 (.agg (qI [.int .u64 0,.int .u64 0,.int .u64 0]))/\qD 43 1 false 24 (.vsl true [] 0)/\jf 43 (.slice 202)/\qD 44 20 true 64 (.agg (.int .u64 0::.int .u64 0::.int .u64 0::qI [.vsl true [] 0]))/\qD 45 20 true 64 (.agg (.int .u64 0::.int .u64 0::.int .u64 0::qI [.vsl true [] 0]))/\qD 46 39 true 104 (.agg (qI (.bool false::VF (.int .u64 0::qI [.vsl true [] 0])))):=wS
@[simp] theorem q7L:qD 47 39 true 104 (.agg (qI (.bool false::VF (.int .u64 0::qI [.vsl true [] 0]))))/\qD 50 1 false 4 (.int .u32 0)/\qqC 50/\jf 50 (.int .u32)/\qD 51 91 true 264 (.agg (.int .u32 0::.int .u32 0::.int .i64 0::qI (qI (qI (qI (ku (ku [.int .u64 0,.int .u32 0,.int .u32 0,.int .u64 0])))))))/\qD 52 91 true 264 (.agg (.int .u32 0::.int .u32 0::.int .i64 0::qI (qI (qI (qI (ku (ku [.int .u64 0,.int .u32 0,.int .u32 0,.int .u64 0])))))))/\qD 53 19 true 40 (.agg (.int .i64 0::qI [.int .u64 0,.int .u64 0]))/\qD 54 19 true 40 (.agg (.int .i64 0::qI [.int .u64 0,.int .u64 0]))/\qD 55 1 false 8 (.nilp)/\jf 55 (.pointer 100)/\qD 56 21 true 64 (.agg (.str []::.int .i64 0::qI [.int .u64 0,.int .u64 0,.nilp]))/\qD 57 21 true 64 (.agg (.str []::.int .i64 0::qI [.int .u64 0,.int .u64 0,.nilp]))/\qD 63 1 false 24 (.vsl true [] 0)/\jf 63 (.slice 5)/\qD 74 1 false 8 (.nilp)/\jf 74 (.pointer 76)/\qD 75 2 true 32 (.agg [.vsl true [] 0,.int .i64 0])/\qD 76 2 true 32 (.agg [.vsl true [] 0,.int .i64 0])/\qD 79 19 true 40 (.agg (.int .i64 0::qI [.int .u64 0,.int .u64 0]))/\qD 81 1 false 8 (.nilp)/\jf 81 (.pointer 137)/\qD 82 1 false 24 (.vsl true [] 0)/\jf 82 (.slice 45)/\qD 92 1 false 24 (.vsl true [] 0):=wS
@[simp] theorem q7J:jf 92 (.slice 154)/\qD 97 1 false 8 (.nilp)/\jf 97 (.pointer 181)/\qD 98 1 false 24 (.vsl true [] 0)/\jf 98 (.slice 38)/\qD 99 5 true 72 (.agg [.nilp,.vsl true [] 0,.int .i64 0,.vsl true [] 0,.bool false])/\qD 100 5 true 72 (.agg [.nilp,.vsl true [] 0,.int .i64 0,.vsl true [] 0,.bool false])/\qD 101 1 false 24 (.vsl true [] 0)/\jf 101 (.slice 105)/\qD 102 1 false 24 (.vsl true [] 0)/\jf 102 (.slice 120)/\qD 103 5 true 72 (.agg [.int .i64 0,.int .i64 0,.bool false,.vsl true [] 0,.vsl true [] 0])/\qD 104 5 true 72 (.agg [.int .i64 0,.int .i64 0,.bool false,.vsl true [] 0,.vsl true [] 0])/\qD 105 1 false 8 (.nilp)/\jf 105 (.pointer 108)/\qD 106 1 false 8 (.nilp)/\jf 106 (.pointer 188)/\qD 107 3 true 32 (.agg [.str [],.bool false,.nilp])/\qD 108 3 true 32 (.agg [.str [],.bool false,.nilp])/\qD 119 4 true 40 (.agg [.int .i64 0,.nilp,.str [],.nilp])/\qD 120 4 true 40 (.agg [.int .i64 0,.nilp,.str [],.nilp])/\qD 123 52 true 80 (.agg (qI (qI (qI [.int .i64 0,.int .i64 0,.int .i64 0,.bool false]))))/\qD 124 52 true 80 (.agg (qI (qI (qI [.int .i64 0,.int .i64 0,.int .i64 0,.bool false]))))/\qD 132 20 true 160 (.agg (ku (ku []))):=wS
@[simp] theorem q7I:jf 132 (.array 20 38)/\qD 133 90 true 256 (.agg (.int .u32 0::.int .u32 0::.int .i64 0::qI (qI (qI (qI (ku (ku [.int .u32 0,.int .u32 0,.int .u64 0])))))))/\qD 134 90 true 256 (.agg (.int .u32 0::.int .u32 0::.int .i64 0::qI (qI (qI (qI (ku (ku [.int .u32 0,.int .u32 0,.int .u64 0])))))))/\qD 135 1 false 24 (.vsl true [] 0)/\jf 135 (.slice 204)/\qD 136 147 true 440 (.agg (qI (qI (qI (.int .i64 0::.int .i64 0::.int .i64 0::.bool false::.int .u32 0::.int .u32 0::.int .i64 0::qI (qI (qI (qI (ku (ku [.int .u32 0,.int .u32 0,.int .u64 0,.int .u64 0,.vsl true [] 0,.vsl true [] 0,.vsl true [] 0,.vsl true [] 0]))))))))))/\qD 137 147 true 440 (.agg (qI (qI (qI (.int .i64 0::.int .i64 0::.int .i64 0::.bool false::.int .u32 0::.int .u32 0::.int .i64 0::qI (qI (qI (qI (ku (ku [.int .u32 0,.int .u32 0,.int .u64 0,.int .u64 0,.vsl true [] 0,.vsl true [] 0,.vsl true [] 0,.vsl true [] 0]))))))))))/\qD 152 1 false 24 (.vsl true [] 0)/\jf 152 (.slice 161)/\qD 153 18 true 48 (.agg (qI [.vsl true [] 0,.int .u64 0]))/\qD 154 18 true 48 (.agg (qI [.vsl true [] 0,.int .u64 0]))/\qD 155 1 false 8 (.nilf)/\qD 160 4 true 32 (.agg [.int .u64 0,.int .u64 0,.nilp,.int .i64 0])/\qD 161 4 true 32 (.agg [.int .u64 0,.int .u64 0,.nilp,.int .i64 0])/\qD 164 1 false 8 (.nilf)/\qD 166 1 false 8 (.nilf)/\qD 167 1 false 24 (.vsl true [] 0)/\jf 167 (.slice 171)/\qD 169 1 false 8 (.nilf)/\qD 170 23 true 72 (.agg (qI [.int .u64 0,.int .u64 0,.nilp,.int .i64 0,.bool false,.int .u64 0,.int .u64 0]))/\qD 171 23 true 72 (.agg (qI [.int .u64 0,.int .u64 0,.nilp,.int .i64 0,.bool false,.int .u64 0,.int .u64 0]))/\qD 176 1 false 8 (.nilf)/\qD 180 92 true 288 (.agg (.vsl true [] 0::.int .u32 0::.int .u32 0::.int .i64 0::qI (qI (qI (qI (ku (ku [.int .u64 0,.int .u32 0,.int .u32 0,.int .u64 0])))))))/\qD 181 92 true 288 (.agg (.vsl true [] 0::.int .u32 0::.int .u32 0::.int .i64 0::qI (qI (qI (qI (ku (ku [.int .u64 0,.int .u32 0,.int .u32 0,.int .u64 0]))))))):=wS
@[simp] theorem q7H:qD 184 1 false 8 (.int .u64 0)/\qqC 184/\jf 184 (.int .u64)/\qD 187 2 true 48 (.agg [.vsl true [] 0,.vsl true [] 0])/\qD 188 2 true 48 (.agg [.vsl true [] 0,.vsl true [] 0])/\qD 193 1 false 24 (.vsl true [] 0)/\jf 193 (.slice 263)/\qD 198 1 false 24 (.vsl true [] 0)/\jf 198 (.slice 207)/\qD 199 1 false 24 (.vsl true [] 0)/\jf 199 (.slice 63)/\qD 201 2 true 32 (.agg [.str [],.str []])/\qD 202 2 true 32 (.agg [.str [],.str []])/\qD 203 5 true 64 (.agg [.str [],.int .u64 0,.int .i64 0,.int .i64 0,.vsl true [] 0])/\qD 204 5 true 64 (.agg [.str [],.int .u64 0,.int .i64 0,.int .i64 0,.vsl true [] 0])/\qD 206 2 true 16 (.agg [.int .u64 0,.int .u64 0])/\qD 207 2 true 16 (.agg [.int .u64 0,.int .u64 0])/\qD 211 21 true 72 (.agg (.int .u64 0::.int .u64 0::.int .u64 0::qI [.int .u64 0,.vsl true [] 0]))/\qD 212 21 true 72 (.agg (.int .u64 0::.int .u64 0::.int .u64 0::qI [.int .u64 0,.vsl true [] 0]))/\qD 219 1 false 16 (.nili)/\qD 220 1 false 16 (.nili)/\qD 226 3 true 40 (.agg [.vsl true [] 0,.int .u64 0,.int .u64 0])/\qD 227 3 true 40 (.agg [.vsl true [] 0,.int .u64 0,.int .u64 0])/\qD 238 1 false 8 (.nilf):=wS
@[simp] theorem q7G:qD 242 1 false 8 (.nilf)/\qD 244 1 false 8 (.int .i64 0)/\qqC 244/\jf 244 (.int .i64)/\qD 262 2 true 16 (.agg [.int .u64 0,.int .u64 0])/\qD 263 2 true 16 (.agg [.int .u64 0,.int .u64 0])/\qD 269 7 true 72 (.agg (VF [.int .u64 0,.int .u64 0,.vsl true [] 0]))/\qD 270 7 true 72 (.agg (VF [.int .u64 0,.int .u64 0,.vsl true [] 0]))/\qD 276 2 true 32 (.agg [.int .u64 0,.vsl true [] 0])/\qD 277 2 true 32 (.agg [.int .u64 0,.vsl true [] 0])/\qD 285 2 true 32 (.agg [.int .u64 0,.vsl true [] 0])/\qD 293 1 false 8 (.int .u64 0)/\qqC 293/\jf 293 (.int .u64)/\qD 296 1 false 8 (.nilp)/\jf 296 (.pointer 3)/\qD 299 24 true 24 (.agg (qI (zb8 [])))/\jf 299 (.array 24 5)/\qD 309 4 true 48 (.agg [.int .u64 0,.int .u64 0,.int .u64 0,.vsl true [] 0])/\qD 310 4 true 48 (.agg [.int .u64 0,.int .u64 0,.int .u64 0,.vsl true [] 0])/\qD 312 4 true 32 (.agg (VF []))/\jf 312 (.array 4 38)/\qD 318 1 false 8 (.int .i64 0)/\qqC 318:=wS
@[simp] theorem q7F:jf 318 (.int .i64)/\qD 320 1 false 8 (.nilp)/\jf 320 (.pointer 359)/\qD 324 1 false 24 (.vsl true [] 0)/\jf 324 (.slice 326)/\qD 326 1 false 8 (.nilp)/\jf 326 (.pointer 37)/\qD 327 1 false 24 (.vsl true [] 0)/\jf 327 (.slice 329)/\qD 329 1 false 8 (.nilp)/\jf 329 (.pointer 38)/\qD 332 1 true 8 (.agg [.int .i64 0])/\qD 333 1 true 8 (.agg [.int .i64 0])/\qD 335 1 false 24 (.vsl true [] 0)/\jf 335 (.slice 339)/\qD 336 21 true 72 (.agg (.int .u64 0::.int .u64 0::.int .u64 0::qI [.int .u64 0,.vsl true [] 0]))/\qD 337 21 true 72 (.agg (.int .u64 0::.int .u64 0::.int .u64 0::qI [.int .u64 0,.vsl true [] 0]))/\qD 339 2 true 16 (.agg [.int .u64 0,.int .u64 0])/\qD 340 7 true 72 (.agg (VF [.int .u64 0,.int .u64 0,.vsl true [] 0]))/\qD 352 65 true 65 (.agg (List.replicate 65 (.int .u8 0)))/\jf 352 (.array 65 5)/\qD 358 3 true 48 (.agg [.str [],.str [],.nili])/\qD 359 3 true 48 (.agg [.str [],.str [],.nili])/\qD 370 256 true 256 (.agg (List.replicate 256 (.int .u8 0))):=wS
@[simp] theorem q7E:jf 370 (.array 256 5)/\qD 371 2 true 2 (.agg [.int .u8 0,.int .u8 0])/\qD 372 2 true 2 (.agg [.int .u8 0,.int .u8 0])/\qD 373 32 true 32 (.agg (List.replicate 32 (.int .u8 0)))/\jf 373 (.array 16 372)/\qD 375 1 false 8 (.nilp)/\jf 375 (.pointer 377)/\qD 376 1 true 16 (.agg [.str []])/\qD 377 1 true 16 (.agg [.str []])/\qD 378 3 true 24 (.agg [.int .i64 0,.int .i64 0,.int .u64 0])/\qD 379 3 true 24 (.agg [.int .i64 0,.int .i64 0,.int .u64 0])/\qD 384 3 true 12 (.agg [.int .u32 0,.int .u32 0,.int .u32 0])/\qD 385 3 true 12 (.agg [.int .u32 0,.int .u32 0,.int .u32 0])/\qD 387 12 true 12 (.agg (zb8 [.int .u8 0,.int .u8 0,.int .u8 0,.int .u8 0]))/\jf 387 (.array 12 5)/\qD 389 32 true 32 (.agg (List.replicate 32 (.int .u8 0)))/\jf 389 (.array 32 5)/\qD 390 64 true 64 (.agg (List.replicate 64 (.int .u8 0)))/\jf 390 (.array 64 5)/\qD 397 1 false 8 (.nilp)/\jf 397 (.pointer 401)/\qD 400 6 true 64 (.agg (VF [.int .i64 0,.vsl true [] 0]))/\qD 401 6 true 64 (.agg (VF [.int .i64 0,.vsl true [] 0]))/\qD 402 8 true 8 (.agg (zb8 [])):=wS
@[simp] theorem q7D:jf 402 (.array 8 5):=wS
@[simp] theorem pl3:ZN Tryz.prog 50 3=some ([.i]):=wF
@[simp] theorem q7C:qqG 3:=wS
@[simp] theorem pl4:ZN Tryz.prog 50 4=some ([.b]):=wF
@[simp] theorem q7B:qqG 4:=wS
@[simp] theorem pl5:ZN Tryz.prog 50 5=some ([.i]):=wF
@[simp] theorem q7A:qqG 5:=wS
@[simp] theorem pl9:ZN Tryz.prog 50 9=some ([.s]):=wF
@[simp] theorem q78:qqG 9:=wS
@[simp] theorem q8z:ZN Tryz.prog 50 21=some ([.i]):=wF
@[simp] theorem q77:qqG 21:=wS
@[simp] theorem q8w:ZN Tryz.prog 50 37=some ((qv3 [])):=wF
@[simp] theorem q76:qqG 37:=wS
@[simp] theorem q8v:ZN Tryz.prog 50 38=some ([.i]):=wF
@[simp] theorem q75:qqG 38:=wS
@[simp] theorem q8s:ZN Tryz.prog 50 50=some ([.i]):=wF
@[simp] theorem q74:qqG 50:=wS
@[simp] theorem q80:ZN Tryz.prog 50 202=some ([.s,.s]):=wF
@[simp] theorem q73:qqG 202:=wS
@[simp] theorem q8y:ZN Tryz.prog 50 244=some ([.i]):=wF
@[simp] theorem q72:qqG 244:=wS
end Go.Ev.S
namespace Go.Ev
open Go Go.Proofs
structure ID where
 l:List UInt8
 h:l.length=16
 deriving DecidableEq
@[simp] theorem ID.len (i:ID):i.l.length=16:=i.h
theorem ID.ext'{a b:ID}(h:a.l=b.l):a=b:=by cases a;cases b;simp at h;subst h;rfl
instance:Enc ID:=⟨16,fun i=>qf i.l,fun i=>wE,fun i=>wE⟩
theorem ID.cells(i:ID):Enc.cells i=qf i.l:=rfl
def ID.zero:ID:=⟨List.replicate 16 0,wE⟩
theorem qv5:∀(x y:List UInt8),x.length=y.length->ZE (List.replicate x.length .i) (qf x) (qf y)=some (x==y)
 |[],[],_=>rfl
 |a::x,b::y,h=>by
  have c:=qv5 x y wQ;simp only[jJ,qdT,qf,List.map_cons,ZE,qgO];simp only[qf] at c;rw[c]
  have:((a.toNat:Int)==(b.toNat:Int))=(a==b):=by
   rw[Bool.eq_iff_iff];simp only[beq_iff_eq,Int.natCast_inj];exact⟨fun h=>UInt8.toNat_inj.1 h,fun h=>by rw[h]⟩
  simp[this]
 |[],_::_,h=>by simp at h
 |_::_,[],h=>by simp at h
@[simp] theorem qA9 (x y:ID):ZE (qv3 []) (qf x.l) (qf y.l)=some (x==y):=by
 have:=qv5 x.l y.l wE;rw[x.h] at this
 have e:(x.l==y.l)=(x==y):=by
  rw[Bool.eq_iff_iff];simp only[beq_iff_eq];exact⟨ID.ext',fun h=>by rw[h]⟩
 rw[e] at this;exact this
structure Mk where
 id:ID
 seq:Int
 lost:Int
 over:Int
 deriving DecidableEq
def jq(n:Int):Prop:=0<=n/\n<18446744073709551616
structure Mk.Ok (m:Mk):Prop where
 seq:jq m.seq
 lost:jq m.lost
 over:jq m.over
def Mk.tl(m:Mk):List D:=[.int .u64 m.seq,.int .u64 m.lost,.int .u64 m.over]
instance:Enc Mk:=⟨19,fun m=>qf m.id.l++m.tl,fun m=>by simp[Mk.tl],fun m=>by simp[Mk.tl,idFree]⟩
theorem Mk.cells(m:Mk):Enc.cells m=qf m.id.l++[.int .u64 m.seq,.int .u64 m.lost,.int .u64 m.over]:=rfl
@[simp] theorem Mk.size:Enc.size Mk=19:=rfl
@[simp] theorem ID.size:Enc.size ID=16:=rfl
@[simp] theorem Mk.cl (a:Mk):(Enc.cells a).length=19:=Enc.len a
@[simp] theorem Mk.ct (a:Mk) (r:List D):(Enc.cells a++r).take 19=Enc.cells a:=qcx rfl a r
@[simp] theorem Mk.ct' (a:Mk):(Enc.cells a).take 19=Enc.cells a:=qcw rfl a
@[simp] theorem Mk.cd (a:Mk) (r:List D):(Enc.cells a++r).drop 19=r:=qcy rfl a r
@[simp] theorem Mk.el (l:List Mk):(qt l).length=l.length*19:=Ks rfl l
@[simp] theorem Mk.ed (l:List Mk) (i:Nat):(qt l).drop (i*19)=qt (l.drop i):=qav rfl l i
@[simp] theorem Mk.et (l:List Mk) (i:Nat):(qt l).take (i*19)=qt (l.take i):=qau rfl l i
@[simp high] theorem Mk.ea {l:List Mk} {i:Nat} (h:i<l.length):(qt l).drop (i*19)=Enc.cells l[i]++qt (l.drop (i+1)):=XS rfl h
@[simp high] theorem Mk.es (m:Mk) {l:List Mk} {j:Nat} (h:j<l.length):zT (qt l) (j*19) (Enc.cells m)=qt (l.set j m):=XR rfl m l h
theorem ko{s:List UInt8}{n:Nat}(h:s.length<=n):(qf s).drop n=[]:=Vn wQ
@[simp] theorem Mk.t16 (m:Mk):(Enc.cells m).take 16=qf m.id.l:=xP
@[simp] theorem Mk.t16' (m:Mk) (r:List D):(Enc.cells m++r).take 16=qf m.id.l:=xP
@[simp] theorem Mk.d16 (m:Mk):(Enc.cells m).drop 16=[.int .u64 m.seq,.int .u64 m.lost,.int .u64 m.over]:=xP
@[simp] theorem Mk.d17 (m:Mk):(Enc.cells m).drop 17=[.int .u64 m.lost,.int .u64 m.over]:=xo
@[simp] theorem Mk.d18 (m:Mk):(Enc.cells m).drop 18=[.int .u64 m.over]:=xo
@[simp] theorem Mk.d16' (m:Mk) (r:List D):(Enc.cells m++r).drop 16=[.int .u64 m.seq,.int .u64 m.lost,.int .u64 m.over]++r:=xP
@[simp] theorem Mk.d17' (m:Mk) (r:List D):(Enc.cells m++r).drop 17=[.int .u64 m.lost,.int .u64 m.over]++r:=xo
@[simp] theorem Mk.d18' (m:Mk) (r:List D):(Enc.cells m++r).drop 18=[.int .u64 m.over]++r:=xo
@[simp] theorem Mk.g16 (m:Mk) (h):(Enc.cells m)[16]'h=.int .u64 m.seq:=xP
@[simp] theorem Mk.g17 (m:Mk) (h):(Enc.cells m)[17]'h=.int .u64 m.lost:=xP
@[simp] theorem Mk.g18 (m:Mk) (h):(Enc.cells m)[18]'h=.int .u64 m.over:=xP
@[simp] theorem Mk.s16 (m:Mk) (x:Int):zT (Enc.cells m) 16 [.int .u64 x]=Enc.cells {m with seq:=x}:=xo
@[simp] theorem Mk.s17 (m:Mk) (x:Int):zT (Enc.cells m) 17 [.int .u64 x]=Enc.cells {m with lost:=x}:=by simp[Mk.cells,Zk,jd,ko,qH]
@[simp] theorem Mk.s18 (m:Mk) (x:Int):zT (Enc.cells m) 18 [.int .u64 x]=Enc.cells {m with over:=x}:=by simp[Mk.cells,Zk,jd,ko,qH]
structure Pr where
 name:List UInt8
 value:List UInt8
 deriving DecidableEq
instance:Enc Pr:=⟨2,fun p=>[.str p.name,.str p.value],fun _=>rfl,fun _=>rfl⟩
theorem Pr.cells(p:Pr):Enc.cells p=[.str p.name,.str p.value]:=rfl
@[simp] theorem Pr.size:Enc.size Pr=2:=rfl
@[simp] theorem Pr.cl (a:Pr):(Enc.cells a).length=2:=Enc.len a
@[simp] theorem Pr.ct (a:Pr) (r:List D):(Enc.cells a++r).take 2=Enc.cells a:=qcx rfl a r
@[simp] theorem Pr.ct' (a:Pr):(Enc.cells a).take 2=Enc.cells a:=qcw rfl a
@[simp] theorem Pr.cd (a:Pr) (r:List D):(Enc.cells a++r).drop 2=r:=qcy rfl a r
@[simp] theorem Pr.el (l:List Pr):(qt l).length=l.length*2:=Ks rfl l
@[simp] theorem Pr.ed (l:List Pr) (i:Nat):(qt l).drop (i*2)=qt (l.drop i):=qav rfl l i
@[simp] theorem Pr.et (l:List Pr) (i:Nat):(qt l).take (i*2)=qt (l.take i):=qau rfl l i
@[simp high] theorem Pr.ea {l:List Pr} {i:Nat} (h:i<l.length):(qt l).drop (i*2)=Enc.cells l[i]++qt (l.drop (i+1)):=XS rfl h
@[simp high] theorem Pr.es (m:Pr) {l:List Pr} {j:Nat} (h:j<l.length):zT (qt l) (j*2) (Enc.cells m)=qt (l.set j m):=XR rfl m l h
structure Rec where
 seq:Int
 real:Int
 mono:Int
 boot:ID
 fields:Sl Pr
instance:Enc Rec:=⟨20,fun r=>[.int .u64 r.seq,.int .u64 r.real,.int .u64 r.mono]++(qf r.boot.l++[(.vsl r.fields.nil (qt r.fields.l) r.fields.l.length)]),fun r=>wE,fun r=>xE⟩
theorem Rec.cells(r:Rec):Enc.cells r=[.int .u64 r.seq,.int .u64 r.real,.int .u64 r.mono]++(qf r.boot.l++[(.vsl r.fields.nil (qt r.fields.l) r.fields.l.length)]):=rfl
@[simp] theorem Rec.size:Enc.size Rec=20:=rfl
structure Rec.Ok (r:Rec):Prop where
 seq:jq r.seq
 real:jq r.real
 mono:jq r.mono
@[simp] theorem Rec.cl (a:Rec):(Enc.cells a).length=20:=Enc.len a
@[simp] theorem Rec.ct (a:Rec) (r:List D):(Enc.cells a++r).take 20=Enc.cells a:=qcx rfl a r
@[simp] theorem Rec.ct' (a:Rec):(Enc.cells a).take 20=Enc.cells a:=qcw rfl a
@[simp] theorem Rec.cd (a:Rec) (r:List D):(Enc.cells a++r).drop 20=r:=qcy rfl a r
@[simp] theorem Rec.el (l:List Rec):(qt l).length=l.length*20:=Ks rfl l
@[simp] theorem Rec.ed (l:List Rec) (i:Nat):(qt l).drop (i*20)=qt (l.drop i):=qav rfl l i
@[simp] theorem Rec.et (l:List Rec) (i:Nat):(qt l).take (i*20)=qt (l.take i):=qau rfl l i
@[simp high] theorem Rec.ea {l:List Rec} {i:Nat} (h:i<l.length):(qt l).drop (i*20)=Enc.cells l[i]++qt (l.drop (i+1)):=XS rfl h
@[simp high] theorem Rec.es (m:Rec) {l:List Rec} {j:Nat} (h:j<l.length):zT (qt l) (j*20) (Enc.cells m)=qt (l.set j m):=XR rfl m l h
structure It where
 id:ID
 gap:Bool
 fr:Int
 til:Int
 rc:Rec
instance:Enc It:=⟨39,fun i=>qf i.id.l++([.bool i.gap,.int .u64 i.fr,.int .u64 i.til]++Enc.cells i.rc),fun i=>wE,fun i=>xE⟩
theorem It.cells(i:It):Enc.cells i=qf i.id.l++([.bool i.gap,.int .u64 i.fr,.int .u64 i.til]++([.int .u64 i.rc.seq,.int .u64 i.rc.real,.int .u64 i.rc.mono]++(qf i.rc.boot.l++[(.vsl i.rc.fields.nil (qt i.rc.fields.l) i.rc.fields.l.length)]))):=rfl
@[simp] theorem It.size:Enc.size It=39:=rfl
structure It.Ok (i:It):Prop where
 fr:jq i.fr
 til:jq i.til
 rc:i.rc.Ok
@[simp] theorem It.cl (a:It):(Enc.cells a).length=39:=Enc.len a
@[simp] theorem It.ct (a:It) (r:List D):(Enc.cells a++r).take 39=Enc.cells a:=qcx rfl a r
@[simp] theorem It.ct' (a:It):(Enc.cells a).take 39=Enc.cells a:=qcw rfl a
@[simp] theorem It.cd (a:It) (r:List D):(Enc.cells a++r).drop 39=r:=qcy rfl a r
@[simp] theorem It.el (l:List It):(qt l).length=l.length*39:=Ks rfl l
@[simp] theorem It.ed (l:List It) (i:Nat):(qt l).drop (i*39)=qt (l.drop i):=qav rfl l i
@[simp] theorem It.et (l:List It) (i:Nat):(qt l).take (i*39)=qt (l.take i):=qau rfl l i
@[simp high] theorem It.ea {l:List It} {i:Nat} (h:i<l.length):(qt l).drop (i*39)=Enc.cells l[i]++qt (l.drop (i+1)):=XS rfl h
@[simp high] theorem It.es (m:It) {l:List It} {j:Nat} (h:j<l.length):zT (qt l) (j*39) (Enc.cells m)=qt (l.set j m):=XR rfl m l h
@[simp] theorem It.t16 (i:It):(Enc.cells i).take 16=qf i.id.l:=by simp[It.cells]
@[simp] theorem It.t16' (i:It) (r:List D):(Enc.cells i++r).take 16=qf i.id.l:=by simp[It.cells]
@[simp] theorem It.d16 (i:It):(Enc.cells i).drop 16=.bool i.gap:: .int .u64 i.fr:: .int .u64 i.til:: .int .u64 i.rc.seq:: .int .u64 i.rc.real:: .int .u64 i.rc.mono::(qf i.rc.boot.l++[(.vsl i.rc.fields.nil (qt i.rc.fields.l) i.rc.fields.l.length)]):=by simp[It.cells]
@[simp] theorem It.d17 (i:It):(Enc.cells i).drop 17=.int .u64 i.fr:: .int .u64 i.til:: .int .u64 i.rc.seq:: .int .u64 i.rc.real:: .int .u64 i.rc.mono::(qf i.rc.boot.l++[(.vsl i.rc.fields.nil (qt i.rc.fields.l) i.rc.fields.l.length)]):=xU
@[simp] theorem It.d18 (i:It):(Enc.cells i).drop 18=.int .u64 i.til:: .int .u64 i.rc.seq:: .int .u64 i.rc.real:: .int .u64 i.rc.mono::(qf i.rc.boot.l++[(.vsl i.rc.fields.nil (qt i.rc.fields.l) i.rc.fields.l.length)]):=xU
@[simp] theorem It.d19 (i:It):(Enc.cells i).drop 19=.int .u64 i.rc.seq:: .int .u64 i.rc.real:: .int .u64 i.rc.mono::(qf i.rc.boot.l++[(.vsl i.rc.fields.nil (qt i.rc.fields.l) i.rc.fields.l.length)]):=xU
@[simp] theorem It.d20 (i:It):(Enc.cells i).drop 20=.int .u64 i.rc.real:: .int .u64 i.rc.mono::(qf i.rc.boot.l++[(.vsl i.rc.fields.nil (qt i.rc.fields.l) i.rc.fields.l.length)]):=xU
@[simp] theorem It.d21 (i:It):(Enc.cells i).drop 21=.int .u64 i.rc.mono::(qf i.rc.boot.l++[(.vsl i.rc.fields.nil (qt i.rc.fields.l) i.rc.fields.l.length)]):=xU
@[simp] theorem It.d22 (i:It):(Enc.cells i).drop 22=qf i.rc.boot.l++[(.vsl i.rc.fields.nil (qt i.rc.fields.l) i.rc.fields.l.length)]:=xU
@[simp] theorem It.d38 (i:It):(Enc.cells i).drop 38=[(.vsl i.rc.fields.nil (qt i.rc.fields.l) i.rc.fields.l.length)]:=xU
def leN:List UInt8->Nat
 |[]=>0
 |b::l=>b.toNat+256*leN l
def QN:Nat->Nat->List UInt8
 |0,_=>[]
 |n+1,v=>UInt8.ofNat (v % 256)::QN n (v/256)
@[simp] theorem qpm:∀(n v:Nat),(QN n v).length=n
 |0,_=>rfl
 |n+1,v=>by simp[QN,qpm n]
theorem qfl:∀(l:List UInt8),leN l<256^l.length
 |[]=>by simp[leN]
 |b::l=>by
  have c:=qfl l;have a:=b.toNat_lt;simp only[leN,jJ,qeI];omega
theorem qk3:∀(n v:Nat),leN (QN n v)=v % 256^n
 |0,v=>by simp[QN,leN,Nat.mod_one]
 |n+1,v=>by
  simp only[QN,leN,qk3 n];rw[qfH (YA _ wH),qeI,Nat.mul_comm (256^n) 256,Nat.mod_mul]
theorem qpl:∀(n v:Nat),QN (n+1) v=QN n v++[UInt8.ofNat (v/256^n % 256)]
 |0,v=>by simp[QN]
 |n+1,v=>by
  rw[QN,qpl n (v/256),QN,Qc,Nat.div_div_eq_div_mul,qeI,Nat.mul_comm 256]
theorem qhM:∀(a b:List UInt8),leN (a++b)=leN a+256^a.length*leN b
 |[],b=>by simp[leN]
 |x::a,b=>by
  simp only[Qc,leN,qhM a b,jJ,qeI];rw[Nat.mul_add,<-Nat.mul_assoc,Nat.mul_comm 256 (256^a.length),qiQ]
theorem qfh(a b:List UInt8):qf (a++b)=qf a++qf b:=wV
theorem qoq(a:UInt8)(b:List UInt8):qf (a::b)=.int .u8 (a.toNat:Int)::qf b:=rfl
theorem qcW(l:List UInt8)(i:Nat):(qf l).drop i=qf (l.drop i):=wV
theorem qep(l:List UInt8)(i:Nat):(qf l).take i=qf (l.take i):=wV
theorem ke{l:List UInt8}{i:Nat}(h:i<l.length):(qf l).drop i=.int .u8 (l[i].toNat:Int)::qf (l.drop (i+1)):=by
 rw[qcW,jo h,qoq]
theorem qzX{l:List UInt8}{i:Nat}(h:i<(qf l).length):(qf l)[i]=.int .u8 ((l[i]' wQ).toNat:Int):=wV
@[simp] theorem qAD (s:List UInt8):VB (qf s)=some s:=by
 induction s with
 |nil=>rfl
 |cons a s b=>
  have:VB (qf (a::s))=(VB (qf s)).map fun r=>UInt8.ofNat ((a.toNat:Int)).toNat::r:=rfl;rw[this,b];simp
theorem qoh(x y:Nat)(h:y<256):(x*256)|||y=x*256+y:=by
 have:=Nat.shiftLeft_add_eq_or_of_lt (b:=y) (i:=8) wQ x;rw[Nat.shiftLeft_eq] at this;simpa using this.symm
def qT(b:List UInt8)(a:Nat):Nat:=leN ((b.drop a).take 8)
theorem qeQ(b:List UInt8)(a:Nat):qT b a<18446744073709551616:=by
 have h:=qfl ((b.drop a).take 8);have c:((b.drop a).take 8).length<=8:=wG
 exact vd h (zJ (qfI wH c) wH)
def kU(b:List UInt8)(a:Nat):Nat:=
 if a % 8≠0 then 3
 else if b.length<a\/b.length-a<16 then 2
 else if(b.getD a 0).toNat<1\/7<(b.getD a 0).toNat then 4
 else if(b.getD (a+1) 0).toNat≠0 then 7
 else if qT b (a+8)<16 then 5
 else if b.length-a<qT b (a+8) then 2
 else 0
def qar(b:List UInt8)(a:Nat):Nat:=(b.getD a 0).toNat
def ZZ(b:List UInt8)(a:Nat):Nat:=qT b (a+8)
theorem qe3{b:List UInt8}{a:Nat}(h:kU b a=0):a % 8=0/\a+16<=b.length/\1<=qar b a/\qar b a<=7/\16<=ZZ b a/\a+ZZ b a<=b.length:=by
 unfold kU at h;unfold qar ZZ;split at h
 · omega
 split at h
 · omega
 split at h
 · omega
 split at h
 · omega
 split at h
 · omega
 split at h
 · omega
 omega
def qN(b:List UInt8)(a:Nat):List UInt8:=(b.drop (a+16)).take (ZZ b a-16)
theorem qfB{b:List UInt8}{a:Nat}(h:kU b a=0):(qN b a).length=ZZ b a-16:=by
 have:=qe3 h;simp only[qN,jc,vg];omega
def jU(l:List UInt8):List Nat:=(List.range (l.length/8)).map fun i=>qT l (8*i)
@[simp] theorem qcY (l:List UInt8):(jU l).length=l.length/8:=by simp[jU]
theorem q0f{l:List UInt8}{i:Nat}(h:i<l.length/8):(jU l)[i]?=some (qT l (8*i)):=by
 simp[jU,h]
theorem qow{l:List UInt8}{x:Nat}(h:x∈jU l):x<18446744073709551616:=by
 simp only[jU,ZI,List.mem_range] at h;obtain⟨i,_,rfl⟩:=h;exact qeQ _ _
def vX(b:List UInt8)(a kind c d:Nat):Nat:=
 if kU b a≠0 then kU b a
 else if qar b a≠kind then 4
 else if ZZ b a<=16+c\/(ZZ b a-(16+c)) % d≠0 then 5
 else 0
def Xq(b:List UInt8)(a:Nat):Nat:=vX b a 6 8 8
def kp(b:List UInt8)(a:Nat):List Nat:=jU (qN b a)
def Q9(b:List UInt8)(sz a:Nat):Nat:=if a<sz\/b.length<=a then 2 else Xq b a
def Yg(b:List UInt8)(a:Nat):Bool:=decide (a=0)||decide (b.length<=a)
def KO(b:List UInt8)(most:Nat):List Nat->List Nat->List Nat×Option Nat
 |[],out=>(out,none)
 |x::l,out=>if out.length=most then(out,none)
  else if Yg b x then(out,some 2)
  else if 0<out.length/\x<=out.getLastD 0 then(out,some 13)
  else KO b most l (out++[x])
def qat(b:List UInt8)(sz most:Nat):Nat->List Nat->Nat->Nat->List Nat×Nat
 |0,out,_,_=>(out,0)
 |n+1,out,at_,d=>if most<=out.length then(out,0)
  else if Yg b at_ then(out,14)
  else if at_<=d then(out,12)
  else if Q9 b sz at_≠0 then(out,Q9 b sz at_)
  else match KO b most (kp b at_).tail out with
   |(a,some c)=>(a,c)
   |(a,none)=>qat b sz most n a ((kp b at_).headD 0) at_
structure Pl where
 s:Nat
 r:Nat
 f:D
 i:Nat
def jj(x:Pl):List D:=[.int .u64 (x.s:Nat),.int .u64 (x.r:Nat),x.f,.int .i64 (x.i:Nat)]
def qW(l:List Pl):List D:=l.flatMap jj
@[simp] theorem qnS (x:Pl):(jj x).length=4:=rfl
theorem Zw:∀l:List Pl,(qW l).length=4*l.length
 |[]=>rfl
 |x::l=>by
  have:=Zw l;simp only[qW,List.flatMap_cons,zo,qnS,jJ] at *;omega
theorem qiz(l m:List Pl):qW (l++m)=qW l++qW m:=by simp[qW]
theorem qlu(x:Pl)(m:List Pl):qW (x::m)=jj x++qW m:=by simp[qW]
theorem qlt:∀(l:List Pl)(j:Nat),(qW l).drop (j*4)=qW (l.drop j)
 |l,0=>by simp
 |[],j+1=>by simp[qW]
 |x::l,j+1=>by
  have:=qlt l j;rw[List.drop_succ_cons,<-this,qlu,show(j+1)*4=4+j*4 from wC,<-kz];rfl
theorem quL{l:List Pl}{j:Nat}(h:j<l.length):((qW l).drop (j*4)).take 4=jj l[j]:=by
 rw[qlt,jo h,qlu];rfl
theorem qe9{l:List Pl}{j:Nat}(h:j<l.length)(x:Pl):zT (qW l) (j*4) (jj x)=qW (l.set j x):=by
 have c:l=l.take j++l[j]::l.drop (j+1):=by rw[<-jo h,Zy]
 have a:l.set j x=l.take j++x::l.drop (j+1):=by rw[qgU,if_pos h]
 rw[a];unfold zT
 have b:(qW l).take (j*4)=qW (l.take j):=by
  have e:qW l=qW (l.take j)++qW (l.drop j):=by rw[<-qiz,Zy]
  rw[e,List.take_append_of_le_length (by rw[Zw,jc];omega),qH (by rw[Zw,jc];omega)]
 rw[b,qiz,qlu,qnS,show j*4+4=(j+1)*4 from wC,qlt];simp
theorem qbt{l:List Pl}{j:Nat}{x:Pl}(h:l[j]?=some x):((qW l).drop (j*4)).take 4=jj x:=by
 obtain⟨a,rfl⟩:=List.getElem?_eq_some_iff.1 h;exact quL a
theorem qnb(P:List Pl)(x y:Pl)(R:List Pl):((P++y::x::R).set (P.length+1) y).set P.length x=P++x::y::R:=by
 simp
theorem qxP(P:List Pl)(x y:Pl)(R:List Pl):((P++x::y::R).set P.length y).set (P.length+1) x=P++y::x::R:=by
 simp
theorem q5g(l:List Pl)(j:Nat):(qW l).take (j*4)=qW (l.take j):=by
 by_cases h:j<=l.length
 .have e:qW l=qW (l.take j)++qW (l.drop j):=by rw[<-qiz,Zy]
  rw[e,List.take_append_of_le_length (by rw[Zw,jc];omega),qH (by rw[Zw,jc];omega)]
 .rw[qH (by rw[Zw];omega),qH wC]
def Qx(a b:Nat):Int:=if a<b then-1 else if b<a then 1 else 0
theorem qbv(a b:Nat):Qx a b<0↔a<b:=by
 unfold Qx;by_cases h:a<b
 .simp[h]
 .by_cases c:b<a<;>simp[h,c]
def J2(l:List Pl):Prop:=l.Pairwise fun a b=>a.s<=b.s
structure StS (u v:List Pl):Prop where
 rise:J2 v
 len:v.length=u.length
 same:∀k,v.filter (·.s==k)=u.filter (·.s==k)
theorem StS.one(u:List Pl)(h:u.length<=1):StS u u:=by
 match u,h with
 |[],_=>exact⟨List.Pairwise.nil,rfl,fun _=>rfl⟩
 |[x],_=>exact⟨List.pairwise_singleton _ _,rfl,fun _=>rfl⟩
theorem StS.mem{u v:List Pl}(h:StS u v){x:Pl}(hx:x∈v):x∈u:=by
 have:x∈v.filter (·.s==x.s):=List.mem_filter.2 ⟨hx,wE⟩;rw[h.same] at this;exact(List.mem_filter.1 this).1
def Ins(M:List Pl)(x:Pl)(v:List Pl):Prop:=∃A B,A++B=M/\v=A++x::B/\(∀y,y∈B->x.s<y.s)/\∀y,y∈A->y.s<=x.s
theorem q45(A B:List Pl)(x:Pl)(c:∀y,y∈B->x.s<y.s)(k:Nat):(A++x::B).filter (·.s==k)=(A++B).filter (·.s==k)++[x].filter (·.s==k):=by
 simp only[List.filter_append,List.filter_cons,List.filter_nil,jX];congr 1;by_cases a:x.s=k
 .have:B.filter (·.s==k)=[]:=List.filter_eq_nil_iff.2 fun y b=>by have:=c y b;simp;omega
  simp[a,this]
 .simp[a]
theorem StS.ins{u M:List Pl}(h:StS u M){x:Pl}{v:List Pl}(e:Ins M x v):StS (u++[x]) v:=by
 obtain⟨A,B,rfl,rfl,d,g⟩:=e;have f:=h.rise;have b:=List.pairwise_append.1 f;refine⟨List.pairwise_append.2 ⟨b.1,List.pairwise_cons.2 ⟨fun y a=>qfJ (d y a),b.2.1⟩,fun y a z c=>?_⟩,?_,fun k=>?_⟩
 .rcases List.mem_cons.1 c with rfl|c
  .exact g y a
  .exact b.2.2 y a z c
 .have:=h.len;simp at this⊢;omega
 .rw[q45 A B x d k,h.same,List.filter_append]
theorem qga{A:List Pl}{y:Pl}(h:J2 (A++[y])){n:Nat}(b:y.s<=n):∀z,z∈A++[y]->z.s<=n:=fun z a=>by
 rcases List.mem_append.1 a with a|a
 .exact zJ ((List.pairwise_append.1 h).2.2 z a y wE) b
 .rw[List.mem_singleton.1 a];exact b
theorem StS.self{u:List Pl}(h:J2 u):StS u u:=⟨h,rfl,fun _=>rfl⟩
theorem Vp{A B:List Pl}(h:J2 (A++B)):J2 A/\J2 B/\∀x,x∈A->∀y,y∈B->x.s<=y.s:=List.pairwise_append.1 h
theorem qeZ{y:Pl}{B:List Pl}(h:J2 (y::B)):∀z,z∈y::B->y.s<=z.s:=fun z a=>by
 rcases List.mem_cons.1 a with rfl|a
 .exact qA _
 .exact(List.pairwise_cons.1 h).1 z a
theorem StS.split{U1 U2 V1 V2 W1 W2:List Pl}(o:J2 (U1++U2))(l:J2 (V1++V2))(n:∀x,x∈U1->∀y,y∈V2->x.s<=y.s)(h:∀x,x∈V1->∀y,y∈U2->x.s<y.s)(d:StS (U1++V1) W1)(f:StS (U2++V2) W2):StS ((U1++U2)++(V1++V2)) (W1++W2):=by
 obtain⟨-,-,m⟩:=Vp o;obtain⟨-,-,j⟩:=Vp l;refine⟨List.pairwise_append.2 ⟨d.rise,f.rise,fun x hx y g=>?_⟩,?_,fun k=>?_⟩
 .rcases List.mem_append.1 (d.mem hx) with a|a<;>rcases List.mem_append.1 (f.mem g) with b|b
  .exact m x a y b
  .exact n x a y b
  .exact qfJ (h x a y b)
  .exact j x a y b
 .have:=d.len;have:=f.len;simp at *;omega
 .have e:V1.filter (·.s==k)++U2.filter (·.s==k)=U2.filter (·.s==k)++V1.filter (·.s==k):=by
   by_cases i:V1.filter (·.s==k)=[]
   .rw[i];simp
   .obtain⟨x,hx⟩:=List.exists_mem_of_ne_nil _ i;have c:=List.mem_filter.1 hx
    have:U2.filter (·.s==k)=[]:=List.filter_eq_nil_iff.2 fun y g p=>by
     have:=h x c.1 y g;have a:=c.2;simp at a p;omega
    rw[this];simp
  simp only[List.filter_append,d.same,f.same,jX];rw[<-jX (V1.filter _),e];simp only[jX]
def J0(x:Pl):List Pl->List Pl
 |[]=>[]
 |y::l=>if y.s=x.s then J0 y l else y::J0 y l
def dd:List Pl->List Pl
 |[]=>[]
 |x::l=>x::J0 x l
theorem qva:∀(l:List Pl)(x y:Pl),J0 x (l++[y])=J0 x l++(if y.s=((x::l).getLast wE).s then[] else[y])
 |[],x,y=>rfl
 |z::l,x,y=>by
  have:=qva l z y;simp only[Qc,J0];rw[this];have e:(x::z::l).getLast wE=(z::l).getLast wE:=by rw[List.getLast_cons wE]
  rw[e];by_cases h:z.s=x.s
  .rw[if_pos h,if_pos h]
  .rw[if_neg h,if_neg h];rfl
theorem q5l{l:List Pl}{x y:Pl}(h:l.getLast?=some x):dd (l++[y])=dd l++(if y.s=x.s then[] else[y]):=by
 cases l with
 |nil=>simp at h
 |cons z l=>
  have e:(z::l).getLast wE=x:=by
   rw[List.getLast?_eq_some_getLast wE] at h;injection h
  simp only[Qc,dd];rw[qva,e]
theorem ql1:∀(l:List Pl)(x:Pl),(J0 x l).Sublist l
 |[],_=>List.Sublist.slnil
 |y::l,x=>by
  unfold J0;split
  .exact(ql1 l y).cons y
  .exact(ql1 l y).cons_cons y
theorem qlz:∀l:List Pl,(dd l).Sublist l
 |[]=>List.Sublist.slnil
 |x::l=>(ql1 l x).cons_cons x
theorem qvb:∀(l:List Pl)(x:Pl),J2 (x::l)->(J0 x l).Pairwise (fun a b=>a.s<b.s)/\∀y,y∈J0 x l->x.s<y.s
 |[],x,_=>⟨List.Pairwise.nil,by simp[J0]⟩
 |y::l,x,h=>by
  obtain⟨i,g⟩:=List.pairwise_cons.1 h;obtain⟨f,d⟩:=qvb l y g;have j:=i y wE;unfold J0;by_cases e:y.s=x.s
  .rw[if_pos e];exact⟨f,fun z c=>by have:=d z c;omega⟩
  .rw[if_neg e];refine⟨List.pairwise_cons.2 ⟨d,f⟩,fun z c=>?_⟩;rcases List.mem_cons.1 c with rfl|c
   .omega
   .have:=d z c;omega
theorem ql0{l:List Pl}(h:J2 l):(dd l).Pairwise (fun a b=>a.s<b.s):=by
 cases l with
 |nil=>exact List.Pairwise.nil
 |cons x l=>
  obtain⟨c,d⟩:=qvb l x h;exact List.pairwise_cons.2 ⟨d,c⟩
end Go.Ev
namespace Go.Ev.S
open Go Go.Proofs Go.Ev
theorem qo5[MaxL][TxtC](a:Nat):call cx 126 [.int .u64 (a:Nat)] []=some (.bool false,[]):=by
 refine qC Tryz.func126 rfl ⟨rfl,rfl⟩ ?_;simp[Tryz.f126]
theorem qlB[MaxL][TxtC](a b:Nat):call cx 76 [.int .u64 (a:Nat),.int .u64 (b:Nat)] []=some (.int .i64 (Qx a b),[]):=by
 have h:=qo5 a;have g:=qo5 b;refine qC Tryz.func76 rfl ⟨rfl,rfl⟩ ?_;unfold Qx;by_cases e:a<b
 .have c:=zq e;simp[Tryz.f76,h,g,e,c]
 have c:=zw e;by_cases f:b<a
 .have d:=zq f;simp[Tryz.f76,h,g,e,c,f,d]
 .have d:=zw f;simp[Tryz.f76,h,g,e,c,f,d]
theorem qi8[MaxL][TxtC](H:qe)(x y:Pl)(hx:closed H.length x.f=true)(k:closed H.length y.f=true):∃T,call cx 75 [.agg (jj x),.agg (jj y)] H=some (.int .i64 (Qx x.s y.s),T)/\Ext [] H T:=by
 have hc:=qlB x.s y.s;obtain⟨c,b⟩:=ql (qr H (jj x));obtain⟨d,e2⟩:=ql (qr c (jj y));have g:=zL b;have e:=zL e2;have j:=js b;have h:qd d H.length=some (jj x):=e.get j wE;have i:=js e2;have a:closed c.length y.f=true:=jr g.len _ k;refine⟨d,j6 Tryz.func75 rfl ⟨rfl,rfl⟩ ?_,g.trans e (NewL.refl _ _)⟩;simp only[jj] at *;simp[-qd,-qr,Tryz.f75,hc,b,e2,h,i,hx,a]
theorem qkG[MaxL][TxtC]{H:qe}{p:Nat}{l:List Pl}(hp:qd H p=some (qW l))(hc:∀x,x∈l->closed H.length x.f=true)(hl:l.length<=1000000)(a b:Nat)(Yz:a<=b)(hb:b<=l.length):
  ∃T M,call cx 182 [.osl p (4*l.length) 0 l.length 4,.int .i64 a,.int .i64 b,.fn 75 []] H=some (.tup [],T)/\Ext [p] H T/\StS ((l.drop a).take (b-a)) M/\qd T p=some (qW (l.take a++M++l.drop b)):=by
 have ae:=Zw l;have wa:=qz ((a:Int)+1) ((a+1:Nat):Int)
 have key:∃q,call cx 182 [.osl p (4*l.length) 0 l.length 4,.int .i64 a,.int .i64 b,.fn 75 []] H=some q/\q.1=.tup []/\Ext [p] H q.2/\∃M,StS ((l.drop a).take (b-a)) M/\qd q.2 p=some (qW (l.take a++M++l.drop b)):=by
  refine vx (X:=cx) (f:=182) (fun q=>q.1=.tup []/\Ext [p] H q.2/\∃M,StS ((l.drop a).take (b-a)) M/\qd q.2 p=some (qW (l.take a++M++l.drop b))) Tryz.func182 rfl ⟨rfl,rfl⟩ ?_;simp[-qd,Tryz.f182,wa]
  refine Run.loopThen (fun(i:Nat) e T=>a<i/\qi e 0=some (.osl p (4*l.length) 0 l.length 4)/\qi e 1=some (.int .i64 a)/\qi e 2=some (.int .i64 b)/\qi e 3=some (.fn 75 [])/\qi e 8=some (.int .i64 i)/\Ext [p] H T/\
   ((b=a/\T=H)\/(i<=b/\∃M,M.length=i-a/\StS ((l.drop a).take (i-a)) M/\qd T p=some (qW (l.take a++M++l.drop i))))) (fun i=>b-i) (a+1) ?_ ?_
  .refine⟨wC,wE,wE,wE,wE,wE,Ext.refl _ _,?_⟩;by_cases P:b=a
   .exact .inl ⟨P,rfl⟩
   .refine .inr ⟨wC,(l.drop a).take 1,wG,by rw[show a+1-a=1 from wC];exact StS.one _ wG,?_⟩;rw[show a+1=a+1 from rfl,<-kz,jX,Zy,Zy];exact hp
  rintro i e T ⟨zX,p0,p1,p2,p3,p8,hx,w⟩;by_cases qg:i<b
  case neg=>
   have qo:=zw qg;simp[-qd,p0,p1,p2,p3,p8,qo];refine⟨hx,?_⟩;rcases w with⟨rfl,rfl⟩|⟨Q,M,L,E,o⟩
   .refine⟨[],⟨List.Pairwise.nil,wE,wE⟩,?_⟩;rw[QW,Zy];exact hp
   .have:i=b:=wC;subst this;exact⟨M,E,by rw[<-jX];exact o⟩
  have qo:=zq qg;rcases w with⟨h0,-⟩|⟨Q,M,L,E,o⟩
  .omega
  have Yk:=qz ((i:Int)+1) ((i+1:Nat):Int);have N:l.drop i=l[i]::l.drop (i+1):=jo wC;have I:=hc l[i] (vC wC)
  have J:∀v,Ins M l[i] v->StS ((l.drop a).take (i+1-a)) v:=fun v hv=>by
   have:(l.drop a).take (i+1-a)=(l.drop a).take (i-a)++[l[i]]:=by
    rw[show i+1-a=(i-a)+1 from wC,Ky wG];congr 2;rw[List.getElem_drop];congr 1;omega
   rw[this];exact E.ins hv
  have Z:∀x,x∈M->closed H.length x.f=true:=fun x hx=>hc x (Zz (QX (E.mem hx)));have U:∀x,x∈l->closed H.length x.f=true:=hc;rw[N] at o;generalize l[i]=x at *;have hX:(l.take a).length=a:=wu
  have hY:(l.drop (i+1)).length=l.length-(i+1):=by rw[vg]
  generalize l.take a=X at *;have ag:l.drop (i+1)=l.drop (i+1):=rfl;simp[-qd,p0,p1,p2,p3,p8,qo]
  refine Run.loopThen (fun(j:Nat) e T=>a<=j/\j<=i/\qi e 0=some (.osl p (4*l.length) 0 l.length 4)/\qi e 1=some (.int .i64 a)/\qi e 2=some (.int .i64 b)/\qi e 3=some (.fn 75 [])/\qi e 8=some (.int .i64 i)/\qi e 9=some (.int .i64 j)/\Ext [p] H T/\
   ∃A B,A.length=j-a/\A++B=M/\(∀y,y∈B->x.s<y.s)/\qd T p=some (qW (X++(A++x::(B++l.drop (i+1)))))) (fun j=>j) i ?_ ?_
  .refine⟨wC,qA _,wE,wE,wE,wE,wE,wE,hx,M,[],wC,wE,wE,by simpa using o⟩
  rintro j e T ⟨Jw,JP,q0,K,u,q3,O,q9,hx,A,B,hA,c,S,o⟩;by_cases ZU:a<j
  case neg=>
   have d:=zw ZU;have aa:A=[]:=ky wC;simp[-qd,q0,K,u,q3,O,q9,d,Yk];subst aa;refine⟨i+1,wC,wC,wC,hx,.inr ⟨wC,x::B,?_,J _ ⟨[],B,wo,rfl,S,wE⟩,by simpa using o⟩⟩;rw[<-c] at L;simp at L⊢;omega
  have d:=zq ZU;obtain⟨g,y,rfl⟩:∃g y,A=g++[y]:=⟨A.dropLast,A.getLast (fun h=>by rw[h] at hA;simp at hA;omega),(List.dropLast_concat_getLast _).symm⟩;have C:closed H.length y.f=true:=Z y (by rw[<-c];simp);obtain⟨k,hk⟩:∃k,j=k+1:=⟨j-1,wC⟩;have G:g.length=k-a:=by simp at hA;omega
  have ac:g.length+1+B.length=i-a:=by rw[<-L,<-c];simp;omega
  obtain⟨W,r⟩:∃W,W=X++(g++y::x::(B++l.drop (i+1))):=⟨_,rfl⟩;have n:qd T p=some (qW W):=by rw[o,r];simp
  have ZB:W.length=l.length:=by rw[r];simp[hX,G,hY];omega
  have wy:W[k]?=some y:=by rw[r,jl wC,jl wC,show k-X.length-g.length=0 from wC];rfl
  have wx:W[j]?=some x:=by rw[r,jl wC,jl wC,show j-X.length-g.length=1 from wC];rfl
  have R:=qbt wy;have ex:=qbt wx;simp only[jj] at R ex;have U:(qW W).length=4*l.length:=by rw[Zw,ZB]
  obtain⟨t,c1,x1⟩:=qi8 T x y (jr hx.len _ I) (jr hx.len _ C);simp only[jj] at c1;have g1:=x1.get n wE;have wj:=qz ((j:Int)-1) (k:Int);have b1:(j:Int)<(l.length:Int):=wC
  have b2:(k:Int)<(l.length:Int):=wC
  have b3:j*4+4<=4*l.length:=wC
  have b4:k*4+4<=4*l.length:=wC
  have b5:4<=4*l.length-j*4:=wC
  have b6:4<=4*l.length-k*4:=wC
  by_cases Y:x.s<y.s
  case neg=>
   have hn:¬Qx x.s y.s<0:=(by rw[qbv];exact Y);simp[-qd,q0,K,u,q3,O,q9,d,Yk,n,ex,R,U,c1,wj,hn,b1,b2,b5,b6];have m:Ext [p] H t:=hx.trans (x1.mono fun i hi=>wU) (NewL.refl _ _);refine⟨i+1,wC,wC,wC,m,.inr ⟨wC,g++y::x::B,wG,J _ ⟨g++[y],B,c,wE,S,?_⟩,?_⟩⟩
   .have hr:=E.rise;rw[<-c] at hr;exact qga (List.pairwise_append.1 hr).1 wC
   .rw[g1,r];simp
  have hn:Qx x.s y.s<0:=by rw[qbv];exact Y
  have s1:=qe9 (l:=W) (j:=j) wC y;have s2:=qe9 (l:=W.set j y) (j:=k) wG x;simp only[jj] at s1 s2;have Jt:t.length=t.length:=rfl;obtain⟨T2,t2⟩:=ql (qn t p (qW (W.set j y)));have g2:=vV t2 g1;obtain⟨T3,V⟩:=ql (qn T2 p (qW ((W.set j y).set k x)));have g3:=vV V g2;have x2:=vZ t2;have x3:=vZ V;have m:Ext [p] H t:=hx.trans (x1.mono fun i hi=>wU) (NewL.refl _ _);have F:Ext [p] H T3:=(m.trans x2 (NewL.refl _ _)).trans x3 (NewL.refl _ _);have y1:closed t.length y.f=true:=jr m.len _ C;have y2:closed T2.length x.f=true:=jr (m.trans x2 (NewL.refl _ _)).len _ I;have XI:(qW (W.set j y)).length=4*l.length:=by rw[Zw,vH,ZB]
  simp[-qd,-qn,q0,K,u,q3,O,q9,d,n,ex,R,U,c1,wj,hn,g1,b1,b2,b3,b4,b5,b6,s1,s2,t2,V,g2,XI,y1,y2];refine⟨k,wC,wC,wC,rfl,F,g,G,y::B,wo,fun z hz=>?_,?_⟩
  .rcases List.mem_cons.1 hz with rfl|hz
   .exact Y
   .exact S z hz
  .rw[g3,r,<-jX,show k=(X++g).length from wG,show j=(X++g).length+1 from wG,qnb];simp
 obtain⟨⟨K,u⟩,h1,h2,h3,M,h4,h5⟩:=key;simp only at h2 h3 h5;subst h2;exact⟨u,M,h1,h3,h4,h5⟩
theorem qjp[MaxL][TxtC]{H:qe}{p:Nat}{l:List Pl}(hp:qd H p=some (qW l))(hc:∀x,x∈l->closed H.length x.f=true)(hl:l.length<=1000000)(P U Q V R:List Pl)(u:l=P++(U++(Q++(V++R))))(a b n:Nat)(ha:P.length=a)(hn:U.length=n)(hb:P.length+(U.length+Q.length)=b)(hv:V.length=n)(g:D):
  ∃T,call cx 266 [.osl p (4*l.length) 0 l.length 4,.int .i64 a,.int .i64 b,.int .i64 n,g] H=some (.tup [],T)/\Ext [p] H T/\qd T p=some (qW (P++(V++(Q++(U++R))))):=by
 have aa:l.length=a+n+Q.length+n+R.length:=by rw[u];simp;omega
 have key:∃q,call cx 266 [.osl p (4*l.length) 0 l.length 4,.int .i64 a,.int .i64 b,.int .i64 n,g] H=some q/\q.1=.tup []/\Ext [p] H q.2/\qd q.2 p=some (qW (P++(V++(Q++(U++R))))):=by
  refine vx (X:=cx) (f:=266) (fun q=>q.1=.tup []/\Ext [p] H q.2/\qd q.2 p=some (qW (P++(V++(Q++(U++R)))))) Tryz.func266 rfl ⟨rfl,rfl⟩ ?_;simp[-qd,Tryz.f266]
  refine Run.loopThen (fun(i:Nat) e T=>i<=n/\qi e 0=some (.osl p (4*l.length) 0 l.length 4)/\qi e 1=some (.int .i64 a)/\qi e 2=some (.int .i64 b)/\qi e 3=some (.int .i64 n)/\qi e 10=some (.int .i64 i)/\Ext [p] H T/\
   qd T p=some (qW (P++(V.take i++(U.drop i++(Q++(U.take i++(V.drop i++R)))))))) (fun i=>n-i) 0 ?_ ?_
  .refine⟨wC,wE,wE,wE,wE,wE,Ext.refl _ _,?_⟩;rw[hp,u];simp
  rintro i e T ⟨hi,p0,p1,p2,S,o,hx,h⟩;by_cases qg:i<n
  case neg=>
   have J:=zw qg;simp[-qd,p0,p1,p2,S,o,J];refine⟨hx,?_⟩;rw[h,qH wC,List.drop_of_length_le wC,qH wC,List.drop_of_length_le wC];simp
  have J:=zq qg;obtain⟨c,ag⟩:∃k,k=a+i:=⟨_,rfl⟩;obtain⟨d,ah⟩:∃k,k=b+i:=⟨_,rfl⟩;have w1:=qz ((a:Int)+(i:Int)) (c:Int);have w2:=qz ((b:Int)+(i:Int)) (d:Int);have w3:=qz ((i:Int)+1) ((i+1:Nat):Int);have eU:U.drop i=U[i]::U.drop (i+1):=jo wC;have eV:V.drop i=V[i]::V.drop (i+1):=jo wC;have tU:U.take (i+1)=U.take i++[U[i]]:=Ky wC;have tV:V.take (i+1)=V.take i++[V[i]]:=Ky wC;have cU:closed H.length U[i].f=true:=hc _ (by rw[u];simp);have Z:closed H.length V[i].f=true:=hc _ (by rw[u];simp);have lU:(U.take i).length=i:=wu
  have lV:(V.take i).length=i:=wu
  have ae:(U.drop (i+1)).length=n-(i+1):=xA
  have ac:(V.drop (i+1)).length=n-(i+1):=xA
  rw[eU,eV] at h;obtain⟨A,F⟩:∃A,A=P++V.take i:=⟨_,rfl⟩;obtain⟨B,w⟩:∃B,B=U.drop (i+1)++(Q++U.take i):=⟨_,rfl⟩;obtain⟨C,z⟩:∃C,C=V.drop (i+1)++R:=⟨_,rfl⟩;obtain⟨x,v⟩:∃x,x=U[i]:=⟨_,rfl⟩;obtain⟨y,I⟩:∃y,y=V[i]:=⟨_,rfl⟩;rw[<-v] at tU cU h;rw[<-I] at tV Z h;have m:P++(V.take (i+1)++(U.drop (i+1)++(Q++(U.take (i+1)++(V.drop (i+1)++R)))))=A++(y::B++(x::C)):=by rw[tU,tV,F,w,z];simp only[jX,Qc,QW]
  have r:P++(V.take i++(x::U.drop (i+1)++(Q++(U.take i++(y::V.drop (i+1)++R)))))=A++(x::B++(y::C)):=by rw[F,w,z];simp only[jX,Qc]
  rw[r] at h;have l1:A.length=c:=by rw[F,zo];omega
  have l2:B.length+c+1=d:=by rw[w];simp only[zo];omega
  have l3:C.length+d+1=l.length:=by rw[z];simp only[zo];omega
  obtain⟨W,s⟩:∃W,W=A++(x::B++(y::C)):=⟨_,rfl⟩;rw[<-s] at h;have ZB:W.length=l.length:=by rw[s];simp;omega
  have wx:W[c]?=some x:=by rw[s,jl wC,show c-A.length=0 from wC];rfl
  have wy:W[d]?=some y:=by rw[s,jl wC,jl wG,show d-A.length-(x::B).length=0 from wG];rfl
  have K:(W.set c y).set d x=A++(y::B++(x::C)):=by
   rw[s,<-l1,show d=(A++y::B).length from wG];simp
  have Y:=qbt wy;have ex:=qbt wx;simp only[jj] at Y ex;have qE:(qW W).length=4*l.length:=by rw[Zw,ZB]
  have b1:(c:Int)<(l.length:Int):=wC
  have b2:(d:Int)<(l.length:Int):=wC
  have b3:c*4+4<=4*l.length:=wC
  have b4:d*4+4<=4*l.length:=wC
  have b5:4<=4*l.length-c*4:=wC
  have b6:4<=4*l.length-d*4:=wC
  have L:=qe9 (l:=W) (j:=c) wC y;have O:=qe9 (l:=W.set c y) (j:=d) wG x;simp only[jj] at L O;obtain⟨T2,G⟩:=ql (qn T p (qW (W.set c y)));have g2:=vV G h;obtain⟨T3,E⟩:=ql (qn T2 p (qW ((W.set c y).set d x)));have g3:=vV E g2;have N:=vZ G;have x3:=vZ E;have t:Ext [p] H T3:=(hx.trans N (NewL.refl _ _)).trans x3 (NewL.refl _ _);have y1:closed T.length y.f=true:=jr hx.len _ Z;have y2:closed T2.length x.f=true:=jr (hx.trans N (NewL.refl _ _)).len _ cU;have XI:(qW (W.set c y)).length=4*l.length:=by rw[Zw,vH,ZB]
  simp[-qd,-qn,p0,p1,p2,S,o,J,w1,w2,w3,h,ex,Y,qE,b1,b2,b3,b4,b5,b6,L,O,G,E,g2,XI,y1,y2];exact⟨i+1,wC,wC,wC,t,by rw[m,g3,K]⟩
 obtain⟨⟨q1,q2⟩,h1,M,h3,h5⟩:=key;simp only at M h3 h5;subst M;exact⟨q2,h1,h3,h5⟩
theorem qoP{A B C E:List Pl}{x:Pl}(h:x∈A++(B++(C++E))):x∈A++(C++(B++E)):=by
 simp only[jW] at h⊢;rcases h with h|h|h|h
 .exact .inl h
 .exact .inr (.inr (.inl h))
 .exact .inr (.inl h)
 .exact .inr (.inr (.inr h))
theorem qy5[MaxL][TxtC]{H:qe}{p:Nat}{l:List Pl}(hp:qd H p=some (qW l))(hc:∀x,x∈l->closed H.length x.f=true)(hl:l.length<=1000000)(P U V R:List Pl)(hd:l=P++(U++(V++R)))(a m b:Nat)(ha:P.length=a)(hm:a+U.length=m)(hb:m+V.length=b)(hU:U≠[])(hV:V≠[])(g:D):
  ∃T,call cx 233 [.osl p (4*l.length) 0 l.length 4,.int .i64 a,.int .i64 m,.int .i64 b,g] H=some (.tup [],T)/\Ext [p] H T/\qd T p=some (qW (P++(V++(U++R)))):=by
 have C:l.length=a+U.length+V.length+R.length:=by rw[hd];simp;omega
 have key:∃q,call cx 233 [.osl p (4*l.length) 0 l.length 4,.int .i64 a,.int .i64 m,.int .i64 b,g] H=some q/\q.1=.tup []/\Ext [p] H q.2/\qd q.2 p=some (qW (P++(V++(U++R)))):=by
  refine vx (X:=cx) (f:=233) (fun q=>q.1=.tup []/\Ext [p] H q.2/\qd q.2 p=some (qW (P++(V++(U++R))))) Tryz.func233 rfl ⟨rfl,rfl⟩ ?_;have w0:=qz ((m:Int)-(a:Int)) (U.length:Int);have J:=qz ((b:Int)-(m:Int)) (V.length:Int);simp[-qd,Tryz.f233,w0,J];have K:0<U.length:=List.length_pos_iff.2 hU;have M:0<V.length:=List.length_pos_iff.2 hV;obtain⟨G,E⟩:=ql (P++(V++(U++R)));have y:∀x,x∈G->closed H.length x.f=true:=fun x hx=>hc x (by rw[<-E] at hx;rw[hd];exact qoP hx);rw[E]
  refine Run.loopThen (fun(q:Nat×Nat) e T=>0<q.1/\0<q.2/\qi e 0=some (.osl p (4*l.length) 0 l.length 4)/\qi e 2=some (.int .i64 m)/\qi e 4=some g/\qi e 10=some (.int .i64 q.1)/\qi e 11=some (.int .i64 q.2)/\Ext [p] H T/\
   ∃h d c k,h.length+q.1=m/\d.length=q.1/\c.length=q.2/\h++(c++(d++k))=G/\qd T p=some (qW (h++(d++(c++k))))) (fun q=>q.1+q.2) (U.length,V.length) ?_ ?_
  .exact⟨K,M,wE,wE,wE,wE,wE,Ext.refl _ _,P,U,V,R,wJ,rfl,rfl,E,by rw[hp,hd]⟩
  rintro⟨i,j⟩ e T ⟨hi,hj,p0,Q,O,r,o,hx,h,d,c,k,h1,w,u,n,Z⟩;simp only at hi hj r o h1 w u;have ac:l.length=h.length+i+j+k.length:=by rw[C,<-w,<-u];have:=congrArg List.length (n.trans E.symm);simp at this;omega
  have W:(h++(d++(c++k))).length=l.length:=wG
  have v:∀x,x∈h++(d++(c++k))->closed T.length x.f=true:=fun x aa=>jr hx.len _ (y x (by rw[<-n];exact qoP aa));have L:=qz ((m:Int)-(i:Int)) (h.length:Int);by_cases qS:i=j
  .subst qS;obtain⟨T1,t,B,z⟩:=qjp Z v wC h d [] c k wE h.length m i rfl w wG u g;rw[W] at t;simp[-qd,p0,Q,O,r,o,L,t];exact⟨hx.trans B (NewL.refl _ _),by rw[z,<-n];simp⟩
  have A:¬(i:Int)=(j:Int):=wC
  have s:((i:Int) !=(j:Int))=true:=by simp only[bne_iff_ne,ne_eq];exact A
  by_cases qg:j<i
  .have N:=zq qg;have wi:=qz ((i:Int)-(j:Int)) ((i-j:Nat):Int);have Y:d=d.take j++d.drop j:=(Zy j d).symm;have F:(d.take j).length=j:=wu;have I:(d.drop j).length=i-j:=xA;obtain⟨T1,t,B,z⟩:=qjp Z v wC h (d.take j) (d.drop j) c k (by rw[<-jX (d.take j),<-Y]) h.length m j rfl F wC u g;rw[W] at t;simp[-qd,p0,Q,O,r,o,L,t,s,N,wi];refine⟨i-j,j,wC,wC,hj,rfl,rfl,hx.trans B (NewL.refl _ _),h++c,by rw[zo];omega,_,I,_,F,k,?_,by rw[z];simp only[jX]⟩;rw[<-n,<-jX (d.take j),Zy];simp only[jX]
  .have N:=zw qg;have wi:=qz ((j:Int)-(i:Int)) ((j-i:Nat):Int);have Y:c=c.take (j-i)++c.drop (j-i):=(Zy _ c).symm;have F:(c.take (j-i)).length=j-i:=wu;have I:(c.drop (j-i)).length=i:=xA;have wm:=qz ((m:Int)+(j:Int)) ((m+j:Nat):Int);have S:=qz ((m:Int)+(j:Int)-(i:Int)) ((m+j-i:Nat):Int);obtain⟨T1,t,B,z⟩:=qjp Z v wC h d (c.take (j-i)) (c.drop (j-i)) k (by rw[<-jX (c.take _),<-Y]) h.length (m+j-i) i rfl w wC I g;rw[W] at t;simp[-qd,p0,Q,O,r,o,L,t,s,N,wi,wm,S];refine⟨i,j-i,wC,wC,wC,rfl,rfl,hx.trans B (NewL.refl _ _),h,wC,_,I,_,F,d++k,?_,by rw[z]⟩;rw[<-n,<-jX (c.take _),Zy]
 obtain⟨⟨q1,q2⟩,h1,w,u,h5⟩:=key;simp only at w u h5;subst w;exact⟨q2,h1,u,h5⟩
theorem qg1{i j:Nat}(h:i+j<1000000000):IntKind.i64.wrap ((i:Int)+(j:Int))=(i:Int)+(j:Int)/\IntKind.i64.wrap ((IntKind.u64.wrap ((i:Int)+(j:Int))).fdiv (2^min 1 IntKind.u64.bits))=(((i+j)/2:Nat):Int):=by
 have e:=zf ((i:Int)+(j:Int)) ((i+j:Nat):Int);refine⟨by rw[wrap_i64]<;>omega,?_⟩;rw[e]
 have:((i+j:Nat):Int).fdiv (2^min 1 IntKind.u64.bits)=(((i+j)/2:Nat):Int):=by
  rw[show(2:Int)^min 1 IntKind.u64.bits=2 from rfl,Int.fdiv_eq_ediv_of_nonneg _ wH];omega
 rw[this,wrap_i64]<;>omega
theorem qcE{l:List Pl}{i:Nat}(h:i<l.length):∃x,l[i]?=some x/\((qW l).drop (i*4)).take 4=jj x:=⟨l[i],qM h,quL h⟩
theorem qm2{T:qe}{p:Nat}{W:List Pl}{n k j:Nat}{x y:Pl}(i:qd T p=some (qW W))(m:W.length=n)(q:W[k]?=some x)(g:W[j]?=some y)(hx:closed T.length x.f=true)(_:closed T.length y.f=true):
  ∃c a e T2 b,qd T p=some c/\c.length=4*n/\(c.drop (k*4)).take 4=jj x/\(c.drop (j*4)).take 4=jj y/\zT c (k*4) (jj y)=a/\qn T p a=T2/\qd T2 p=some a/\a.length=4*n/\zT a (j*4) (jj x)=e/\qn T2 p e=b/\
   qd b p=some (qW ((W.set k y).set j x))/\Ext [p] T b/\closed T2.length x.f=true/\(k:Int)<(n:Int)/\(j:Int)<(n:Int)/\k*4+4<=4*n/\j*4+4<=4*n/\4<=4*n-k*4/\4<=4*n-j*4:=by
 have d:=(List.getElem?_eq_some_iff.1 q).1;have t:=(List.getElem?_eq_some_iff.1 g).1;have h:qd (qn T p (qW (W.set k y))) p=some (qW (W.set k y)):=zj (qx i);have s:=qe9 (l:=W) d y;have r:=qe9 (l:=W.set k y) (j:=j) (by simpa using t) x;have o:Ext [p] T (qn T p (qW (W.set k y))):=Ext.set T p _;refine⟨qW W,qW (W.set k y),qW ((W.set k y).set j x),_,_,i,by rw[Zw,m],qbt q,qbt g,s,rfl,h,by rw[Zw,vH,m],r,rfl,zj (qx h),o.trans (Ext.set _ p _) (NewL.refl _ _),jr o.len _ hx,wC,wC,wC,wC,wC,wC⟩
def qeH(H:qe)(p:Nat)(P U V R:List Pl)(q:D×qe):Prop:=q.1=.tup []/\Ext [p] H q.2/\∃W,StS (U++V) W/\qd q.2 p=some (qW (P++(W++R)))
theorem qwV[MaxL][TxtC]{H:qe}{p:Nat}{l:List Pl}(hp:qd H p=some (qW l))(hc:∀x,x∈l->closed H.length x.f=true)(hl:l.length<=1000000)(P:List Pl)(x:Pl)(V R:List Pl)(r:l=P++(x::(V++R)))(a m b:Nat)(ha:P.length=a)(hm:a+1=m)(hb:m+V.length=b)(hV:J2 V):
  ∃q,call cx 183 [.osl p (4*l.length) 0 l.length 4,.int .i64 a,.int .i64 m,.int .i64 b,.fn 75 []] H=some q/\qeH H p P [x] V R q:=by
 have au:l.length=a+1+V.length+R.length:=by rw[r];simp;omega
 refine vx (X:=cx) (f:=183) (qeH H p P [x] V R) Tryz.func183 rfl ⟨rfl,rfl⟩ ?_;have w0:=qz ((m:Int)-(a:Int)) 1;simp[-qd,Tryz.f183,w0]
 refine Run.loopThen (fun(q:Nat×Nat) e T=>m<=q.1/\q.1<=q.2/\q.2<=b/\qi e 0=some (.osl p (4*l.length) 0 l.length 4)/\qi e 1=some (.int .i64 a)/\qi e 4=some (.fn 75 [])/\qi e 10=some (.int .i64 q.1)/\qi e 11=some (.int .i64 q.2)/\Ext [] H T/\
  (q.1=m\/∀y,l[q.1-1]?=some y->y.s<x.s)/\(q.2=b\/∀y,l[q.2]?=some y->x.s<=y.s)) (fun q=>q.2-q.1) (m,b) ?_ ?_
 .exact⟨qA _,wJ,qA _,wE,wE,wE,wE,wE,Ext.refl _ _,.inl rfl,.inl rfl⟩
 rintro⟨i,j⟩ e T ⟨h1,h2,h3,p0,p1,p4,o,t,hx,W,Q5⟩;simp only at h1 h2 h3 o t W Q5;by_cases qg:i<j
 .have M:=zq qg;obtain⟨w1,Z⟩:=qg1 (i:=i) (j:=j) wC;obtain⟨h,hh⟩:∃h,h=(i+j)/2:=⟨_,rfl⟩;rw[<-hh] at Z;have wh:=qz ((h:Int)+1) ((h+1:Nat):Int);obtain⟨y,B,ey⟩:=qcE (l:=l) (i:=h) wC;have F:l[a]?=some x:=by rw[r,jl wC,ha,Nat.sub_self];rfl
  have ex:=qbt F;have cx:=jr hx.len _ (hc x (j7 F));have cy:=jr hx.len _ (hc y (j7 B));have v:=hx.get hp wE;obtain⟨T1,c1,x1⟩:=qi8 T y x cy cx;simp only[jj] at c1 ex ey;have qE:(qW l).length=4*l.length:=Zw l;have b1:(a:Int)<(l.length:Int):=wC
  have b2:(h:Int)<(l.length:Int):=wC
  have b3:a*4+4<=4*l.length:=wC
  have b4:h*4+4<=4*l.length:=wC
  have b5:4<=4*l.length-a*4:=wC
  have b6:4<=4*l.length-h*4:=wC
  by_cases vJ:y.s<x.s
  .have hn:Qx y.s x.s<0:=xf;simp[-qd,p0,p1,p4,o,t,M,w1,Z,wh,v,ex,ey,qE,b1,b2,b5,b6,c1,hn];exact⟨h+1,j,wC,wC,wC,h3,wC,rfl,hx.trans x1 (NewL.refl _ _),.inr (fun z d=>by simp at d;rw[B] at d;cases d;exact vJ),Q5⟩
  .have hn:¬Qx y.s x.s<0:=xf;simp[-qd,p0,p1,p4,o,t,M,w1,Z,v,ex,ey,qE,b1,b2,b5,b6,c1,hn];exact⟨i,h,wC,h1,wC,wC,rfl,rfl,hx.trans x1 (NewL.refl _ _),W,.inr (fun z d=>by rw[B] at d;cases d;omega)⟩
 .have M:=zw qg;have qS:i=j:=by omega
  subst qS;obtain⟨V1,V2,Vh,Yt⟩:∃V1 V2,V=V1++V2/\m+V1.length=i:=⟨V.take (i-m),V.drop (i-m),(Zy _ _).symm,wu⟩;subst Vh;have S:qd T p=some (qW l):=hx.get hp wE;have U:Ext [p] H T:=hx.mono fun i hi=>by simp at hi
  have wi:=qz ((i:Int)-1) ((i-1:Nat):Int);have g:=Vp hV
  have aj:∀y,y∈V1->y.s<x.s:=by
   rcases W with E|E
   .have:V1=[]:=ky wC;rw[this];simp
   .rcases List.eq_nil_or_concat V1 with zl|⟨A,y,rfl⟩
    .rw[zl];simp
    .have w:=E y (by
      rw[r,show P++x::(A.concat y++V2++R)=(P++x::A)++(y::(V2++R)) from wE,jl (by simp at Yt⊢;omega),show i-1-(P++x::A).length=0 by simp at Yt⊢;omega];rfl)
     intro z d;simp only[List.concat_eq_append] at d g;exact Nat.lt_of_le_of_lt (qga g.1 (qA _) z d) w
  have aa:∀y,y∈V2->x.s<=y.s:=by
   rcases Q5 with E|E
   .have:V2=[]:=ky (by simp at hb;omega);rw[this];simp
   .cases u:V2 with
    |nil=>simp
    |cons y C=>
     have w:=E y (by
      rw[r,u,show P++x::(V1++y::C++R)=(P++x::V1)++(y::(C++R)) from wE,jl wG,show i-(P++x::V1).length=0 from wG];rfl)
     intro z d;rw[u] at g;exact zJ w (qeZ g.2.1 z d)
  have Q:StS ([x]++(V1++V2)) (V1++x::V2):=by
   have:=StS.split (U1:=[]) (U2:=[x]) (V1:=V1) (V2:=V2) (W1:=V1) (W2:=x::V2) (List.pairwise_singleton _ _) hV wE (fun z d y B=>by simp at B;subst B;exact aj z d) (StS.self g.1) (StS.self (List.pairwise_cons.2 ⟨aa,g.2.1⟩));simpa using this
  simp[-qd,p0,p1,p4,o,t,M]
  refine Run.loopThen (fun(k:Nat) e T=>a<=k/\k+1<=i/\qi e 0=some (.osl p (4*l.length) 0 l.length 4)/\qi e 10=some (.int .i64 i)/\qi e 13=some (.int .i64 k)/\Ext [p] H T/\
   qd T p=some (qW (P++(V1.take (k-a)++(x::(V1.drop (k-a)++(V2++R))))))) (fun k=>i-k) a ?_ ?_
  .refine⟨qA _,wC,wE,wE,wE,U,?_⟩;rw[S,r];simp
  rintro k e T ⟨k1,k2,q0,G,K,hx,v⟩;by_cases vA:k+1<i
  .have n:(k:Int)<((i-1:Nat):Int):=wC;obtain⟨j,hj⟩:∃j,j=k+1:=⟨_,rfl⟩;have wk:=qz ((k:Int)+1) (j:Int);have e1:V1.drop (k-a)=V1[k-a]' wC::V1.drop (j-a):=(by rw[jo wC];congr 2;omega);have e2:V1.take (j-a)=V1.take (k-a)++[V1[k-a]' wC]:=(by rw[show j-a=(k-a)+1 from wC,Ky wC]);obtain⟨y,J⟩:∃y,y=V1[k-a]' wC:=⟨_,rfl⟩;have L:y∈V1:=(by rw[J];exact vC _);rw[<-J] at e1 e2;rw[e1] at v;obtain⟨A,hA⟩:∃A,A=P++V1.take (k-a):=⟨_,rfl⟩;have N:A.length=k:=(by rw[hA,zo,jc];omega);obtain⟨C,hC⟩:∃C,C=V1.drop (j-a)++(V2++R):=⟨_,rfl⟩;have I:P++(V1.take (k-a)++(x::(y::V1.drop (j-a)++(V2++R))))=A++x::y::C:=(by rw[hA,hC];simp only[jX,Qc]);have ak:P++(V1.take (j-a)++(x::(V1.drop (j-a)++(V2++R))))=A++y::x::C:=(by rw[hA,hC,e2];simp only[jX,Qc,QW]);rw[I] at v;have ZB:(A++x::y::C).length=l.length:=(by rw[<-I,r];simp;omega);obtain⟨c,c2,c3,T2,T3,f1,f2,f3,f4,f5,f6,f7,f8,f9,am,ag,ac,Y,aq,ao,ae,O,ai,ah⟩:=qm2 (k:=k) (j:=j) (x:=x) (y:=y) v ZB (by rw[jl wC,N,Nat.sub_self];rfl) (by rw[jl wC,N,show j-k=1 from wC];rfl) (jr hx.len _ (hc x (by rw[r];simp))) (jr hx.len _ (hc y (by rw[r];simp[L])));have cy:=jr hx.len _ (hc y (by rw[r];simp[L]));simp only[jj] at f3 f4 f5 f9;simp[-qd,-qn,q0,G,K,wi,wk,n,f1,f2,f3,f4,f5,f6,f7,f8,f9,am,Y,aq,ao,ae,O,ai,ah,cy];exact⟨j,wC,wC,wC,rfl,hx.trans ac (NewL.refl _ _),by rw[ag,ak,<-N,hj,<-N,qxP]⟩
  .have n:¬(k:Int)<((i-1:Nat):Int):=wC;simp[-qd,q0,G,K,wi,n];have hk:k-a=V1.length:=wC;exact⟨rfl,hx,_,Q,by rw[v,hk,qH (qA _),List.drop_of_length_le (qA _)];simp⟩
theorem qwU[MaxL][TxtC]{H:qe}{p:Nat}{l:List Pl}(hp:qd H p=some (qW l))(hc:∀x,x∈l->closed H.length x.f=true)(hl:l.length<=1000000)(P U:List Pl)(y:Pl)(R:List Pl)(E:l=P++(U++(y::R)))(a m b:Nat)(ha:P.length=a)(hm:a+U.length=m)(hb:m+1=b)(hU:J2 U)(L:U.length≠1):
  ∃q,call cx 183 [.osl p (4*l.length) 0 l.length 4,.int .i64 a,.int .i64 m,.int .i64 b,.fn 75 []] H=some q/\qeH H p P U [y] R q:=by
 have ax:l.length=a+U.length+1+R.length:=by rw[E];simp;omega
 refine vx (X:=cx) (f:=183) (qeH H p P U [y] R) Tryz.func183 rfl ⟨rfl,rfl⟩ ?_;obtain⟨u,hu⟩:∃u,u=U.length:=⟨_,rfl⟩;have w0:=qz ((m:Int)-(a:Int)) (u:Int);have au:=qz ((b:Int)-(m:Int)) 1;have ak:¬(u:Int)=1:=wC
 have W:((u:Int)==1)=false:=by simp only[beq_eq_false_iff_ne];exact ak
 simp[-qd,Tryz.f183,w0,au,W]
 refine Run.loopThen (fun(q:Nat×Nat) e T=>a<=q.1/\q.1<=q.2/\q.2<=m/\qi e 0=some (.osl p (4*l.length) 0 l.length 4)/\qi e 2=some (.int .i64 m)/\qi e 4=some (.fn 75 [])/\qi e 14=some (.int .i64 q.1)/\qi e 15=some (.int .i64 q.2)/\Ext [] H T/\
  (q.1=a\/∀z,l[q.1-1]?=some z->z.s<=y.s)/\(q.2=m\/∀z,l[q.2]?=some z->y.s<z.s)) (fun q=>q.2-q.1) (a,m) ?_ ?_
 .exact⟨qA _,wJ,qA _,wE,wE,wE,wE,wE,Ext.refl _ _,.inl rfl,.inl rfl⟩
 rintro⟨i,j⟩ e T ⟨h1,h2,h3,p0,p2,p4,t,o,hx,kj,Q5⟩;simp only at h1 h2 h3 t o kj Q5;by_cases qg:i<j
 .have N:=zq qg;obtain⟨w1,w2⟩:=qg1 (i:=i) (j:=j) wC;obtain⟨h,hh⟩:∃h,h=(i+j)/2:=⟨_,rfl⟩;rw[<-hh] at w2;have wh:=qz ((h:Int)+1) ((h+1:Nat):Int);obtain⟨z,hz,Q⟩:=qcE (l:=l) (i:=h) wC;have J:l[m]?=some y:=by rw[E,jl wC,jl wC,show m-P.length-U.length=0 from wC];rfl
  have ey:=qbt J;have M:=jr hx.len _ (hc z (j7 hz));have cy:=jr hx.len _ (hc y (j7 J));have B:=hx.get hp wE;obtain⟨T1,c1,x1⟩:=qi8 T y z cy M;simp only[jj] at c1 Q ey;have qE:(qW l).length=4*l.length:=Zw l;have b1:(m:Int)<(l.length:Int):=wC
  have b2:(h:Int)<(l.length:Int):=wC
  have b3:m*4+4<=4*l.length:=wC
  have b4:h*4+4<=4*l.length:=wC
  have b5:4<=4*l.length-m*4:=wC
  have b6:4<=4*l.length-h*4:=wC
  by_cases vJ:y.s<z.s
  .have hn:Qx y.s z.s<0:=xf;simp[-qd,p0,p2,p4,t,o,N,w1,w2,B,Q,ey,qE,b1,b2,b5,b6,c1,hn];exact⟨i,h,wC,h1,wC,wC,rfl,rfl,hx.trans x1 (NewL.refl _ _),kj,.inr (fun v n=>by rw[hz] at n;cases n;exact vJ)⟩
  .have hn:¬Qx y.s z.s<0:=xf;have jQ:0<=Qx y.s z.s:=wC;simp[-qd,p0,p2,p4,t,o,N,w1,w2,wh,B,Q,ey,qE,b1,b2,b5,b6,c1,hn];exact⟨h+1,j,wC,wC,wC,h3,wC,rfl,hx.trans x1 (NewL.refl _ _),.inr (fun v n=>by simp at n;rw[hz] at n;cases n;omega),Q5⟩
 .have N:=zw qg;have qS:i=j:=by omega
  subst qS;obtain⟨U1,U2,d,Yt⟩:∃U1 U2,U=U1++U2/\a+U1.length=i:=⟨U.take (i-a),U.drop (i-a),(Zy _ _).symm,wu⟩;have Y:qd T p=some (qW l):=hx.get hp wE;have Z:Ext [p] H T:=hx.mono fun i hi=>by simp at hi
  have r:=Vp (d▸hU);have ay:U.length=U1.length+U2.length:=by rw[d,zo]
  have L:∀z,z∈U1->z.s<=y.s:=by
   rcases kj with F|F
   .have:U1=[]:=ky wC;rw[this];simp
   .rcases List.eq_nil_or_concat U1 with zl|⟨A,z,w⟩
    .rw[zl];simp
    .rw[List.concat_eq_append] at w;have aA:U1.length=A.length+1:=by rw[w];simp
     have Q1:=F z (by
      rw[E,d,w,show P++(A++[z]++U2++y::R)=(P++A)++(z::(U2++y::R)) from wE,jl wG,show i-1-(P++A).length=0 from wG];rfl)
     intro v n;rw[w] at r n;exact qga r.1 Q1 v n
  have S:∀z,z∈U2->y.s<z.s:=by
   rcases Q5 with F|F
   .have:U2=[]:=ky wC;rw[this];simp
   .cases Q8:U2 with
    |nil=>simp
    |cons z C=>
     have Q1:=F z (by
      rw[E,d,Q8,show P++(U1++z::C++y::R)=(P++U1)++(z::(C++y::R)) from wE,jl wG,show i-(P++U1).length=0 from wG];rfl)
     intro v n;rw[Q8] at r;exact vd Q1 (qeZ r.2.1 v n)
  have V:StS (U++[y]) (U1++y::U2):=(StS.self hU).ins ⟨U1,U2,d.symm,rfl,S,L⟩;simp[-qd,p0,p2,p4,t,o,N]
  refine Run.loopThen (fun(k:Nat) e T=>i<=k/\k<=m/\qi e 0=some (.osl p (4*l.length) 0 l.length 4)/\qi e 14=some (.int .i64 i)/\qi e 17=some (.int .i64 k)/\Ext [p] H T/\
   qd T p=some (qW (P++(U.take (k-a)++(y::(U.drop (k-a)++R)))))) (fun k=>k) m ?_ ?_
  .refine⟨wC,qA _,wE,wE,wE,Z,?_⟩;rw[Y,E,qH wC,List.drop_of_length_le wC];simp
  rintro k e T ⟨k1,k2,q0,I,K,hx,B⟩;by_cases vA:i<k
  .have g:=zq vA;obtain⟨j,hj⟩:∃j,k=j+1:=⟨k-1,wC⟩;have wk:=qz ((k:Int)-1) (j:Int);have e1:U.drop (j-a)=U[j-a]' wC::U.drop (k-a):=(by rw[jo wC];congr 2;omega);have e2:U.take (k-a)=U.take (j-a)++[U[j-a]' wC]:=(by rw[show k-a=(j-a)+1 from wC,Ky wC]);obtain⟨z,G⟩:∃z,z=U[j-a]' wC:=⟨_,rfl⟩;have ag:z∈U:=(by rw[G];exact vC _);rw[<-G] at e1 e2;rw[e2] at B;obtain⟨A,hA⟩:∃A,A=P++U.take (j-a):=⟨_,rfl⟩;have lA:A.length=j:=(by rw[hA,zo,jc];omega);obtain⟨C,hC⟩:∃C,C=U.drop (k-a)++R:=⟨_,rfl⟩;have aq:P++(U.take (j-a)++[z]++(y::(U.drop (k-a)++R)))=A++z::y::C:=(by rw[hA,hC];simp only[jX,Qc,QW]);have am:P++(U.take (j-a)++(y::(U.drop (j-a)++R)))=A++y::z::C:=(by rw[hA,hC,e1];simp only[jX,Qc]);rw[aq] at B;have az:C.length=U.length-(k-a)+R.length:=(by rw[hC,zo,vg]);have ZB:(A++z::y::C).length=l.length:=(by simp only[zo,jJ];omega);have M:=jr hx.len _ (hc z (by rw[E];simp[ag]));obtain⟨c,c2,c3,T2,T3,f1,f2,f3,f4,f5,f6,f7,f8,f9,ao,ah,ac,aa,aw,av,ae,O,aj,ai⟩:=qm2 (k:=k) (j:=j) (x:=y) (y:=z) B ZB (by rw[jl wC,lA,show k-j=1 from wC];rfl) (by rw[jl wC,lA,Nat.sub_self];rfl) (jr hx.len _ (hc y (by rw[E];simp))) M;simp only[jj] at f3 f4 f5 f9;simp[-qd,-qn,q0,I,K,wk,g,f1,f2,f3,f4,f5,f6,f7,f8,f9,ao,aa,aw,av,ae,O,aj,ai,M];exact⟨j,wC,wC,wC,rfl,hx.trans ac (NewL.refl _ _),by rw[ah,am,hj,<-lA,qnb]⟩
  .have g:=zw vA;simp[-qd,q0,I,K,g];have hk:k-a=U1.length:=wC;have t1:U.take (k-a)=U1:=(by rw[d,hk];simp);have t2:U.drop (k-a)=U2:=(by rw[d,hk];simp);exact⟨rfl,hx,_,V,by rw[B,t1,t2];simp⟩
end Go.Ev.S
namespace Go.Ev
open Go Go.Proofs
section
variable {X:Cx} {f nt n0:Nat} {Q:Ex->qu->qe->Prop} {fs:List Fr} {a b c d:Code} {e:qu} {H:qe}
theorem qxV{o:Option (Ex×qu×qe)}:Run X f nt n0 Q (.seq (.seq a b)::fs) o=Run X f nt n0 Q (.seq a:: .seq b::fs) o:=by
 match o with
 |none=>rw[kV,kV]
 |some (.normal,e,H)=>rw[qeY,qeY,qb6]
 |some (.exit i,e,H)=>rw[qfX,qfX,qfX]
 |some (.ret,e,H)=>rw[qfW,qfW,qfW]
theorem qxU:Run X f nt n0 Q fs (zk X f nt n0 (.seq a (.seq b c)) e H)=Run X f nt n0 Q (.seq c::fs) (zk X f nt n0 (.seq a b) e H):=by
 rw[qb6,qb6,qxV]
end
end Go.Ev
namespace Go.Ev.S
open Go Go.Proofs Go.Ev
theorem qwT[MaxL][TxtC]:∀(N:Nat){H:qe}{p:Nat}{l:List Pl}(_:qd H p=some (qW l))(_:∀x,x∈l->closed H.length x.f=true)(_:l.length<=1000000)(P U V R:List Pl)(_:l=P++(U++(V++R)))(a m b:Nat)(_:P.length=a)(_:a+U.length=m)(_:m+V.length=b)(_:J2 U)(_:J2 V)(_:U≠[])(_:V≠[])(_:b-a<=N),
  ∃q,call cx 183 [.osl p (4*l.length) 0 l.length 4,.int .i64 a,.int .i64 m,.int .i64 b,.fn 75 []] H=some q/\qeH H p P U V R q:=by
 intro N
 induction N with
 |zero=>
  intro H p l hp hc hl P U V R L a m b ha hm hb hU W ag aD hN;have:=List.length_pos_iff.2 ag;omega
 |succ N ih=>
 intro H p l hp hc hl P U V R L a m b ha hm hb hU W ag aD hN;have aR:=List.length_pos_iff.2 ag;have aQ:=List.length_pos_iff.2 aD;by_cases aH:U.length=1
 .match U,aH with
  |[x],_=>exact qwV hp hc hl P x V R (by simpa using L) a m b ha hm hb W
 by_cases aJ:V.length=1
 .match V,aJ with
  |[y],_=>exact qwU hp hc hl P U y R (by simpa using L) a m b ha hm hb hU aH
 have aP:l.length=a+U.length+V.length+R.length:=by rw[L];simp;omega
 refine vx (X:=cx) (f:=183) (qeH H p P U V R) Tryz.func183 rfl ⟨rfl,rfl⟩ ?_;obtain⟨u,hu⟩:∃u,u=U.length:=⟨_,rfl⟩;obtain⟨v,K⟩:∃v,v=V.length:=⟨_,rfl⟩;have w0:=qz ((m:Int)-(a:Int)) (u:Int);have ax:=qz ((b:Int)-(m:Int)) (v:Int);have aE:¬(u:Int)=1:=wC
 have aF:¬(v:Int)=1:=wC
 have ah:((u:Int)==1)=false:=by simp only[beq_eq_false_iff_ne];exact aE
 have jE:((v:Int)==1)=false:=by simp only[beq_eq_false_iff_ne];exact aF
 obtain⟨w1,w2⟩:=qg1 (i:=a) (j:=b) wC;obtain⟨d,aG⟩:∃k,k=(a+b)/2:=⟨_,rfl⟩;rw[<-aG] at w2;obtain⟨n,hn⟩:∃n,n=d+m:=⟨_,rfl⟩;have w3:=qz ((d:Int)+(m:Int)) (n:Int);have w5:=qz ((n:Int)-1) ((n-1:Nat):Int)
 obtain⟨J,hi,ao,aC⟩:∃J hi:Nat,(a<=J/\J<=hi/\hi<=m/\n<=J+b/\m<=n-hi/\hi<=n/\(J=a\/n=J+b)/\(hi=m\/n=hi+m))/\((d<m/\(n:Int)-(b:Int)=(J:Int)/\hi=d)\/(¬d<m/\J=a/\hi=m)):=by
  by_cases zU:d<m
  .exact⟨n-b,d,wC,.inl ⟨zU,wC,rfl⟩⟩
  .exact⟨a,m,wC,.inr ⟨zU,rfl,rfl⟩⟩
 obtain⟨k1,k2,k3,k4,k5,k6,k7,k8⟩:=ao;have aI:=qz (J:Int) (J:Int);have qE:(qW l).length=4*l.length:=Zw l;rcases aC with⟨zU,kj,Q5⟩|⟨zU,kj,Q5⟩
 case' neg.inl=>
  have G:(d:Int)<(m:Int):=wC
  simp[-qd,Tryz.f183,w0,ax,ah,jE,w1,w2,w3,G,aI,kj,w5]
 case' neg.inr=>
  have G:¬(d:Int)<(m:Int):=wC
  simp[-qd,Tryz.f183,w0,ax,ah,jE,w1,w2,w3,G,w5]
 all_goals
  clear w1 w2 w5 aE aF ah jE w0 ax G
  refine Run.loopThen (fun(q:Nat×Nat) e T=>J<=q.1/\q.1<=q.2/\q.2<=hi/\qi e 0=some (.osl p (4*l.length) 0 l.length 4)/\qi e 1=some (.int .i64 a)/\qi e 2=some (.int .i64 m)/\qi e 3=some (.int .i64 b)/\qi e 4=some (.fn 75 [])/\qi e 18=some (.int .i64 d)/\qi e 19=some (.int .i64 n)/\qi e 20=some (.int .i64 q.1)/\qi e 21=some (.int .i64 q.2)/\qi e 22=some (.int .i64 (n-1:Nat))/\Ext [] H T/\
   (q.1=J\/∀x y,l[q.1-1]?=some x->l[n-q.1]?=some y->x.s<=y.s)/\(q.2=hi\/∀x y,l[q.2]?=some x->l[n-1-q.2]?=some y->y.s<x.s)) (fun q=>q.2-q.1) (J,hi) ?_ ?_
  .exact⟨qA _,k2,qA _,wE,wE,wE,wE,wE,wE,wE,by simp[kj],by simp[Q5],wE,Ext.refl _ _,.inl rfl,.inl rfl⟩
  rintro⟨i,j⟩ e T ⟨h1,h2,h3,p0,p1,p2,p3,p4,av,ay,S,Z,ak,hx,hL,hR⟩;simp only at h1 h2 h3 S Z hL hR;by_cases qg:i<j
  .have qo:=zq qg;obtain⟨w1,w2⟩:=qg1 (i:=i) (j:=j) wC;obtain⟨h,hh⟩:∃h,h=(i+j)/2:=⟨_,rfl⟩;rw[<-hh] at w2;have wh:=qz ((h:Int)+1) ((h+1:Nat):Int);obtain⟨g,Xd⟩:∃g,g=n-1-h:=⟨_,rfl⟩;have wg:=qz (((n-1:Nat):Int)-(h:Int)) (g:Int);obtain⟨x,VV,ex⟩:=qcE (l:=l) (i:=h) wC;obtain⟨y,au,ey⟩:=qcE (l:=l) (i:=g) wC;have aM:=jr hx.len _ (hc x (j7 VV));have aL:=jr hx.len _ (hc y (j7 au));have hg:=hx.get hp wE;obtain⟨T1,M,x1⟩:=qi8 T y x aL aM;simp only[jj] at M ex ey;have b1:(g:Int)<(l.length:Int):=wC;have b2:(h:Int)<(l.length:Int):=wC;have b3:g*4+4<=4*l.length:=wC;have b4:h*4+4<=4*l.length:=wC;have b5:4<=4*l.length-g*4:=wC;have b6:4<=4*l.length-h*4:=wC;by_cases vJ:y.s<x.s
   .have hn:Qx y.s x.s<0:=xf;have jQ:¬0<=Qx y.s x.s:=wC;simp[-qd,p0,p1,p2,p3,p4,av,ay,S,Z,ak,qo,w1,w2,wg,hg,ex,ey,qE,b1,b2,b5,b6,M,hn];exact⟨i,h,wC,h1,wC,wC,rfl,rfl,hx.trans x1 (NewL.refl _ _),hL,.inr (fun v z K hz=>by rw[VV] at K;cases K;rw[<-Xd,au] at hz;cases hz;exact vJ)⟩
   .have hn:¬Qx y.s x.s<0:=xf;have jQ:0<=Qx y.s x.s:=wC;simp[-qd,p0,p1,p2,p3,p4,av,ay,S,Z,ak,qo,w1,w2,wh,wg,hg,ex,ey,qE,b1,b2,b5,b6,M,hn];exact⟨h+1,j,wC,wC,wC,h3,wC,rfl,hx.trans x1 (NewL.refl _ _),.inr (fun v z K hz=>by simp at K;rw[VV] at K;cases K;rw[show n-(h+1)=g from wC,au] at hz;cases hz;omega),hR⟩
  have qo:=zw qg;have qS:i=j:=wC
  subst qS;obtain⟨I,jV⟩:∃I,I=n-i:=⟨_,rfl⟩;obtain⟨U1,U2,c,Yt⟩:∃U1 U2,U=U1++U2/\a+U1.length=i:=⟨U.take (i-a),U.drop (i-a),(Zy _ _).symm,wu⟩;obtain⟨V1,V2,F,XJ⟩:∃V1 V2,V=V1++V2/\m+V1.length=I:=⟨V.take (I-m),V.drop (I-m),(Zy _ _).symm,wu⟩;have Y:U.length=U1.length+U2.length:=by rw[c,zo]
  have az:V.length=V1.length+V2.length:=by rw[F,zo]
  have hA:∀x,x∈U1->∀y,y∈V2->x.s<=y.s:=by
   rcases hL with h0|h0
   .rcases k7 with h7|h7
    .have:U1=[]:=ky wC;rw[this];simp
    .have:V2=[]:=ky wC;rw[this];simp
   .rcases List.eq_nil_or_concat U1 with zl|⟨A,x,aa⟩
    .rw[zl];simp
    rw[List.concat_eq_append] at aa;cases aB:V2 with
    |nil=>simp
    |cons y C=>
     have aN:U1.length=A.length+1:=by rw[aa];simp
     have aj:=h0 x y (by
      rw[L,c,aa,show P++(A++[x]++U2++(V++R))=(P++A)++(x::(U2++(V++R))) from wE,jl wG,show i-1-(P++A).length=0 from wG];rfl) (by
      rw[L,F,aB,show P++(U++(V1++y::C++R))=(P++(U++V1))++(y::(C++R)) from wE,jl wG,show n-i-(P++(U++V1)).length=0 from wG];rfl)
     intro v K z hz;have r1:=(Vp (c▸hU)).1;have r2:=(Vp (F▸W)).2.1;rw[aa] at r1 K;rw[aB] at r2;exact zJ (qga r1 aj v K) (qeZ r2 z hz)
  have hB:∀y,y∈V1->∀x,x∈U2->y.s<x.s:=by
   rcases hR with h0|h0
   .rcases k8 with h8|h8
    .have:U2=[]:=ky wC;rw[this];simp
    .have:V1=[]:=ky wC;rw[this];simp
   .rcases List.eq_nil_or_concat V1 with zl|⟨A,y,ae⟩
    .rw[zl];simp
    rw[List.concat_eq_append] at ae;cases aA:U2 with
    |nil=>simp
    |cons x C=>
     have aN:V1.length=A.length+1:=by rw[ae];simp
     have aj:=h0 x y (by
      rw[L,c,aA,show P++(U1++x::C++(V++R))=(P++U1)++(x::(C++(V++R))) from wE,jl wG,show i-(P++U1).length=0 from wG];rfl) (by
      rw[L,F,ae,show P++(U++(A++[y]++V2++R))=(P++(U++A))++(y::(V2++R)) from wE,jl wG,show n-1-i-(P++(U++A)).length=0 from wG];rfl)
     intro v K z hz;have r1:=(Vp (F▸W)).1;have r2:=(Vp (c▸hU)).2.1;rw[ae] at r1 K;rw[aA] at r2;exact Nat.lt_of_le_of_lt (qga r1 (qA _) v K) (vd aj (qeZ r2 z hz))
  have am:qd T p=some (qW l):=hx.get hp wE;have O:Ext [p] H T:=hx.mono fun i hi=>by simp at hi
  have vw:∀x,x∈P++(U1++(V1++(U2++(V2++R))))->closed H.length x.f=true:=fun x hx=>hc x (by
   rw[L,c,F];simp only[jW] at hx⊢;rcases hx with h|h|h|h|h|h
   .exact .inl h
   .exact .inr (.inl (.inl h))
   .exact .inr (.inr (.inl (.inl h)))
   .exact .inr (.inl (.inr h))
   .exact .inr (.inr (.inl (.inr h)))
   .exact .inr (.inr (.inr h)))
  have w6:=qz ((n:Int)-(i:Int)) (I:Int);rw[qb6];simp[-qd,-qb6];rw[qb6];simp[-qd,-qb6,p0,p1,p2,p3,p4,av,ay,S,Z,ak,qo];rw[qxU];refine Run.mono (R:=fun ex w H1=>ex=.normal/\qi w 0=some (.osl p (4*l.length) 0 l.length 4)/\qi w 1=some (.int .i64 a)/\qi w 3=some (.int .i64 b)/\qi w 4=some (.fn 75 [])/\qi w 18=some (.int .i64 d)/\qi w 20=some (.int .i64 i)/\qi w 24=some (.int .i64 I)/\Ext [p] H H1/\qd H1 p=some (qW (P++(U1++(V1++(U2++(V2++R))))))) ?_ ?_
  .by_cases M:i<m
   case neg=>
    have o:=zw M;simp[-qd,w6,o];have:U2=[]:=ky wC;exact⟨O,by rw[am,L,c,F,this];simp⟩
   have o:=zq M;by_cases c2:m<I
   case neg=>
    have t:=zw c2;simp[-qd,w6,o,t];have:V1=[]:=ky wC;exact⟨O,by rw[am,L,c,F,this];simp⟩
   have t:=zq c2;obtain⟨T1,c3,x3,g3⟩:=qy5 am (fun x hx=>jr O.len _ (hc x hx)) hl (P++U1) U2 V1 (V2++R) (by rw[L,c,F];simp) i m I wG wC wC (fun h=>by rw[h] at Y;simp at Y;omega) (fun h=>by rw[h] at az XJ;simp at XJ;omega) (.fn 75 []);simp[-qd,w6,o,t,c3];exact⟨O.trans x3 (NewL.refl _ _),by rw[g3];simp⟩
  rintro _ w H1 ⟨rfl,q0,q1,q3,q4,E,aw,B,Q,Xd⟩;have aO:(P++(U1++(V1++(U2++(V2++R))))).length=l.length:=wG
  rw[qeY,qb6];refine Run.mono (R:=fun ex w H2=>ex=.normal/\qi w 0=some (.osl p (4*l.length) 0 l.length 4)/\qi w 3=some (.int .i64 b)/\qi w 4=some (.fn 75 [])/\qi w 18=some (.int .i64 d)/\qi w 24=some (.int .i64 I)/\Ext [p] H H2/\∃W1,StS (U1++V1) W1/\qd H2 p=some (qW (P++(W1++(U2++(V2++R)))))) ?_ ?_
  .by_cases M:a<i
   case neg=>
    have o:=zw M;simp[-qd,q0,q1,q3,q4,E,aw,B,o];have:U1=[]:=ky wC;subst this;exact⟨Q,V1,StS.self (Vp (F▸W)).1,by simpa using Xd⟩
   have o:=zq M;by_cases c2:i<d
   case neg=>
    have t:=zw c2;simp[-qd,q0,q1,q3,q4,E,aw,B,o,t];have:V1=[]:=ky wC;subst this;exact⟨Q,U1,by simpa using StS.self (Vp (c▸hU)).1,by simpa using Xd⟩
   have t:=zq c2;obtain⟨⟨r,T1⟩,c3,z1,z2,W1,z3,z4⟩:=ih Xd (fun x hx=>jr Q.len _ (vw x hx)) wC P U1 V1 (U2++(V2++R)) rfl a i d ha Yt wC (Vp (c▸hU)).1 (Vp (F▸W)).1 (fun h=>by rw[h] at Yt;simp at Yt;omega) (fun h=>by rw[h] at XJ;simp at XJ;omega) wC;simp only at z1 z2 z4;subst z1;rw[aO] at c3;simp[-qd,q0,q1,q3,q4,E,aw,B,o,t,c3];exact⟨Q.trans z2 (NewL.refl _ _),W1,z3,by rw[z4]⟩
  rintro _ e2 H2 ⟨rfl,q0,q3,q4,E,B,ac,W1,aq,ai⟩;have aS:W1.length=U1.length+V1.length:=by rw[aq.len];simp
  have aK:(P++(W1++(U2++(V2++R)))).length=l.length:=wG
  have fin:∀(H3:qe)(W2:List Pl),Ext [p] H H3->StS (U2++V2) W2->qd H3 p=some (qW (P++(W1++(W2++R))))->qeH H p P U V R (.tup [],H3):=fun H3 W2 w e2 e3=>
   ⟨rfl,w,W1++W2,by rw[c,F];exact StS.split (c▸hU) (F▸W) hA hB aq e2,by rw[e3];simp⟩
  rw[qeY];by_cases M:d<I
  case neg=>
   have o:=zw M;simp[-qd,q0,q3,q4,E,B,o];have:U2=[]:=ky wC;subst this;exact fin H2 V2 ac (StS.self (Vp (F▸W)).2.1) (by simpa using ai)
  have o:=zq M;by_cases c2:I<b
  case neg=>
   have t:=zw c2;simp[-qd,q0,q3,q4,E,B,o,t];have:V2=[]:=ky wC;subst this;exact fin H2 U2 ac (by simpa using StS.self (Vp (c▸hU)).2.1) (by simpa using ai)
  have t:=zq c2
  obtain⟨⟨r,T1⟩,c3,z1,z2,W2,z3,z4⟩:=ih ai (fun x hx=>jr ac.len _ (by
   simp only[jW] at hx;rcases hx with h|h|h|h|h
   .exact vw x xM
   .rcases List.mem_append.1 (aq.mem h) with h|h
    .exact vw x xM
    .exact vw x xM
   .exact vw x xM
   .exact vw x xM
   .exact vw x xM)) wC (P++W1) U2 V2 R wE d I b wG wC wC (Vp (c▸hU)).2.1 (Vp (F▸W)).2.1 (fun h=>by rw[h] at Y;simp at Y;omega) (fun h=>by rw[h] at az;simp at az;omega) wC
  simp only at z1 z2 z4;subst z1;rw[aK] at c3;simp[-qd,q0,q3,q4,E,B,o,t,c3];exact fin T1 W2 (ac.trans z2 (NewL.refl _ _)) z3 (by rw[z4];simp)
end Go.Ev.S
namespace Go.Ev.S
open Go Go.Proofs Go.Ev
theorem StS.trans_app{u v A B:List Pl}(h:StS u A)(b:StS v B){W:List Pl}(a:StS (A++B) W):StS (u++v) W:=
 ⟨a.rise,by rw[a.len,zo,zo,h.len,b.len],fun k=>by rw[a.same,List.filter_append,List.filter_append,h.same,b.same]⟩
def qiO(H:qe)(p:Nat)(l:List Pl)(q:D×qe):Prop:=q.1=.tup []/\Ext [p] H q.2/\∃W,StS l W/\qd q.2 p=some (qW W)
theorem qxr[MaxL][TxtC]{H:qe}{p:Nat}{l:List Pl}(B:qd H p=some (qW l))(hc:∀x,x∈l->closed H.length x.f=true)(R:l.length<40):
  ∃q,call cx 125 [.osl p (4*l.length) 0 l.length 4,.int .i64 l.length,.fn 75 []] H=some q/\qiO H p l q:=by
 refine vx (X:=cx) (f:=125) (qiO H p l) Tryz.func125 rfl ⟨rfl,rfl⟩ ?_;have S:IntKind.i64.wrap (20+20)=40:=rfl;have U:IntKind.i64.wrap (2*20)=40:=rfl;have w3:IntKind.i64.wrap (20*2)=40:=rfl;have Q:IntKind.i64.wrap (0+20)=20:=rfl;simp[-qd,Tryz.f125];refine Vb ?_;by_cases o:20<=l.length
 case neg=>
  have a:¬(20:Int)<=(l.length:Int):=wC
  have m:¬(20:Int)<(l.length:Int):=wC
  obtain⟨T,M,d,y,b,t⟩:=qkG B hc wC 0 l.length wC (qA _);replace d:call cx 182 [.osl p (4*l.length) 0 l.length 4,.int .i64 0,.int .i64 l.length,.fn 75 []] H=some (.tup [],T):=d;simp[-qd,a,d];refine Vb ?_;simp[-qd,m];exact⟨rfl,y,M,wv,by simpa using t⟩
 have a:(20:Int)<=(l.length:Int):=wC
 have c:¬(40:Int)<=(l.length:Int):=wC
 have g:¬(40:Int)<(l.length:Int):=wC
 obtain⟨T,M,d,y,b,t⟩:=qkG B hc wC 0 20 wC o;replace d:call cx 182 [.osl p (4*l.length) 0 l.length 4,.int .i64 0,.int .i64 20,.fn 75 []] H=some (.tup [],T):=d;have v:M.length=20:=by rw[b.len];simp;omega
 simp only[Nat.sub_zero,List.drop_zero,List.take_zero,QW] at b t;have K:(M++l.drop 20).length=l.length:=wG
 have n:∀x,x∈M++l.drop 20->closed T.length x.f=true:=fun x hx=>jr y.len _ (by
  rcases List.mem_append.1 hx with h|h
  .exact hc x (QX (b.mem h))
  .exact hc x (Zz h))
 obtain⟨T2,j,w,E,e,A⟩:=qkG t n wC 20 l.length o wC;rw[K] at w;replace w:call cx 182 [.osl p (4*l.length) 0 l.length 4,.int .i64 20,.int .i64 l.length,.fn 75 []] T=some (.tup [],T2):=w;have P:(M++l.drop 20).drop 20=l.drop 20:=by rw[<-v];simp
 have O:(M++l.drop 20).take 20=M:=by rw[<-v];simp
 have J:(M++l.drop 20).drop l.length=[]:=List.drop_of_length_le wC;rw[P] at e;rw[O,J,J4] at A;rw[qH wE] at e;have i:j.length=l.length-20:=by rw[e.len];simp
 have s:Ext [p] H T2:=y.trans E (NewL.refl _ _);simp[-qd,a,d];refine Vb ?_;simp[-qd,c,w];refine Vb ?_;by_cases V:20<l.length
 case neg=>
  have z:¬(20:Int)<(l.length:Int):=wC
  simp[-qd,z];have:j=[]:=ky wC;subst this;refine⟨rfl,s,M,?_,by simpa using A⟩;rw[qH wC] at b;exact b
 have z:(20:Int)<(l.length:Int):=wC
 have k:∀x,x∈M++j->closed T2.length x.f=true:=fun x hx=>jr E.len _ (n x (by
  rcases List.mem_append.1 hx with h|h
  .simp[h]
  .have:=e.mem h;exact List.mem_append_right _ this))
 have L:(M++j).length=l.length:=wG
 obtain⟨⟨r,N⟩,u,F,G,W,I,C⟩:=qwT l.length A k wC [] M j [] wE 0 20 l.length rfl wC wC b.rise e.rise (fun h=>by rw[h] at v;simp at v) (fun h=>by rw[h] at i;simp at i;omega) wC;simp only at F G C;subst F;rw[L] at u;replace u:call cx 183 [.osl p (4*l.length) 0 l.length 4,.int .i64 0,.int .i64 20,.int .i64 l.length,.fn 75 []] T2=some (.tup [],N):=u;simp[-qd,z];refine Vb ?_;simp[-qd,c,z,u];refine Vb ?_;simp[-qd,g];refine⟨rfl,s.trans G (NewL.refl _ _),W,?_,by simpa using C⟩;have:=StS.trans_app b e I;rw[Zy] at this;exact this
theorem qx1[MaxL][TxtC]{H:qe}{p:Nat}{l:List Pl}(b:qd H p=some (qW l))(hc:∀x,x∈l->closed H.length x.f=true)(c:l.length<40):
  ∃q,call cx 74 [.osl p (4*l.length) 0 l.length 4,.fn 75 []] H=some q/\qiO H p l q:=by
 obtain⟨⟨r,T⟩,e,a,d⟩:=qxr b hc c;simp only at a;subst a;refine vx (X:=cx) (f:=74) (qiO H p l) Tryz.func74 rfl ⟨rfl,rfl⟩ ?_;simp[-qd,Tryz.f74,e];exact⟨rfl,d⟩
theorem qx0[MaxL][TxtC](H:qe):∃T,call cx 74 [.vsl true [] 0,.fn 75 []] H=some (.tup [],T)/\Ext [] H T:=by
 have b:call cx 182 [.vsl true [] 0,.int .i64 0,.int .i64 0,.fn 75 []] H=some (.tup [],H):=by
  refine j6 Tryz.func182 rfl ⟨rfl,rfl⟩ ?_;have w:IntKind.i64.wrap (0+1)=1:=rfl;simp[-qd,Tryz.f182];refine Vb ?_;simp[-qd]
 have a:call cx 125 [.vsl true [] 0,.int .i64 0,.fn 75 []] H=some (.tup [],H):=by
  refine j6 Tryz.func125 rfl ⟨rfl,rfl⟩ ?_;simp[-qd,Tryz.f125];refine Vb ?_;simp[-qd,b];refine Vb ?_;simp[-qd]
 refine⟨H,j6 Tryz.func74 rfl ⟨rfl,rfl⟩ ?_,Ext.refl _ _⟩;simp[-qd,Tryz.f74,a]
theorem quB[MaxL][TxtC](H:qe)(x y:Pl)(hx:closed H.length x.f=true)(l:closed H.length y.f=true):∃T,call cx 78 [.agg (jj x),.agg (jj y)] H=some (.bool (decide (x.s=y.s)),T)/\Ext [] H T:=by
 obtain⟨c,b⟩:=ql (qr H (jj x));obtain⟨d,e2⟩:=ql (qr c (jj y));have g:=zL b;have e:=zL e2;have k:=js b;have i:qd d H.length=some (jj x):=e.get k wE;have j:=js e2;have a:closed c.length y.f=true:=jr g.len _ l;refine⟨d,j6 Tryz.func78 rfl ⟨rfl,rfl⟩ ?_,g.trans e (NewL.refl _ _)⟩;simp only[jj] at *;simp[-qd,-qr,Tryz.f78,b,e2,i,j,hx,a];by_cases h:x.s=y.s<;>simp[h]<;>omega
def RowF(H:qe)(v:D)(l:List Pl)(L:List Nat):Prop:=(v=.vsl true [] 0/\l=[]/\L=[])\/∃p st cs,v=.osl p st 0 l.length 4/\qd H p=some cs/\cs.length=st/\4*l.length<=st/\(∀j x,l[j]?=some x->(cs.drop (j*4)).take 4=jj x)/\L=[p]
def qwg(H:qe)(p:Nat)(l:List Pl)(q:D×qe):Prop:=Ext [p] H q.2/\RowF q.2 q.1 (dd l) [p]
theorem qnt{H:qe}{p:Nat}{l:List Pl}(h:qd H p=some (qW l)):RowF H (.osl p (4*l.length) 0 l.length 4) l [p]:=
 .inr ⟨p,_,_,rfl,h,Zw l,qA _,fun _ _=>qbt,rfl⟩
theorem qhh{l:List Pl}{k:Nat}{x:Pl}(h:l[k]?=some x):l.take (k+1)=l.take k++[x]:=by
 obtain⟨a,rfl⟩:=List.getElem?_eq_some_iff.1 h;exact Ky a
theorem quY{l:List Pl}{k:Nat}{x y:Pl}(hx:l[k]?=some x)(a:l[k+1]?=some y):dd (l.take (k+2))=dd (l.take (k+1))++(if y.s=x.s then[] else[y]):=by
 rw[qhh (k:=k+1) a];exact q5l (by rw[qhh hx];simp)
theorem q5y[MaxL][TxtC]{H:qe}{p:Nat}{l:List Pl}(Z:qd H p=some (qW l))(hc:∀x,x∈l->closed H.length x.f=true)(hl:l.length<=1000000)(E:l≠[]):
  ∃q,call cx 77 [.osl p (4*l.length) 0 l.length 4,.fn 78 []] H=some q/\qwg H p l q:=by
 refine vx (X:=cx) (f:=77) (qwg H p l) Tryz.func77 rfl ⟨rfl,rfl⟩ ?_;have Jt:=List.length_pos_iff.2 E;have qE:(qW l).length=4*l.length:=Zw l;by_cases h2:l.length<2
 .have vm:(l.length:Int)<2:=by omega
  simp[-qd,Tryz.f77,vm]
  match l,Jt,h2 with
  |[x],_,_=>exact⟨Ext.refl _ _,qnt Z⟩
 have vm:¬(l.length:Int)<2:=wC
 simp[-qd,Tryz.f77,vm];have mem:∀{j:Nat}{x:Pl},l[j]?=some x->closed H.length x.f=true:=fun h=>hc _ (j7 h);refine Run.loopThen (fun(k:Nat) e T=>1<=k/\k<=l.length/\qi e 0=some (.osl p (4*l.length) 0 l.length 4)/\qi e 1=some (.fn 78 [])/\qi e 5=some (.int .i64 k)/\Ext [] H T/\dd (l.take k)=l.take k) (fun k=>l.length-k) 1 ?_ ?_
 .refine⟨qA _,wC,wE,wE,wE,Ext.refl _ _,?_⟩;cases l with
  |nil=>exact absurd rfl E
  |cons x l=>simp[dd,J0]
 rintro k e T ⟨k1,k2,p0,p1,p5,hx,V⟩;by_cases qg:k<l.length
 case neg=>
  have U:=zw qg;simp[-qd,p0,p1,p5,U];have:k=l.length:=wC
  rw[this,List.take_length] at V;exact⟨hx.mono fun i hi=>wU,by rw[V];exact qnt (hx.get Z wE)⟩
 have U:=zq qg;obtain⟨j,t⟩:∃j,k=j+1:=⟨k-1,wC⟩;have wj:=qz ((k:Int)-1) (j:Int);have wk:=qz ((k:Int)+1) ((k+1:Nat):Int);obtain⟨x,KU,ex⟩:=qcE (l:=l) (i:=j) wC;obtain⟨y,C,ey⟩:=qcE (l:=l) (i:=k) wC;have hg:=hx.get Z wE;obtain⟨T1,J,x1⟩:=quB T y x (jr hx.len _ (mem C)) (jr hx.len _ (mem KU));simp only[jj] at J ex ey;have b1:(j:Int)<(l.length:Int):=wC
 have b3:j*4+4<=4*l.length:=wC
 have b4:k*4+4<=4*l.length:=wC
 have b5:4<=4*l.length-j*4:=wC
 have b6:4<=4*l.length-k*4:=wC
 have o:=quY (l:=l) (k:=j) KU (t▸C);by_cases Q:y.s=x.s
 case neg=>
  rw[decide_eq_false Q] at J;simp[-qd,p0,p1,p5,U,wj,wk,hg,ex,ey,qE,b1,b5,b6,J];refine⟨k+1,wC,wC,wC,wC,hx.trans x1 (NewL.refl _ _),?_⟩;rw[if_neg Q,<-t,V,<-qhh C] at o;rw[t] at o⊢;exact o
 have g1:=x1.get hg wE;have ac:=hx.trans x1 (NewL.refl _ _);have I:Ext [p] H T1:=ac.mono fun i hi=>by simp at hi
 rw[if_pos Q,J4,<-t,V] at o;have kb:(k:Int)<=(l.length:Int):=wC
 have ao:k<=l.length:=wC
 obtain⟨m,hm⟩:∃m,m=l.length-k:=⟨_,rfl⟩;rw[decide_eq_true Q] at J;simp[-qd,p0,p1,p5,U,wj,hg,ex,ey,qE,b1,b5,b6,J,kb,qg,<-hm]
 refine Run.loopThen (fun(q:Nat×Nat) e T=>1<=q.2/\q.2<=m/\q.1+1<=k+q.2/\qi e 0=some (.osl p (4*l.length) 0 l.length 4)/\qi e 1=some (.fn 78 [])/\qi e 5=some (.int .i64 q.1)/\qi e 6=some (.osl p (4*l.length) (k*4) m 4)/\qi e 7=some (.int .i64 q.2)/\Ext [p] H T/\
  ∃W,qd T p=some (qW W)/\W.length=l.length/\W.take q.1=dd (l.take (k+q.2))/\(∀j,k+q.2<=j+1->W[j]?=l[j]?)/\∀x,x∈W->x∈l) (fun q=>m-q.2) (k,1) ?_ ?_
 .exact⟨qA _,wJ,qA _,wE,wE,wE,wE,wE,I,l,g1,rfl,by simp only;rw[show k+1=j+2 from wC];exact o.symm,fun _ _=>rfl,fun _ h=>h⟩
 rintro⟨c,i⟩ e T ⟨i1,i2,i3,q0,q1,P,q6,S,hx,W,g,ZB,d,r,n⟩;simp only at i1 i2 i3 P S d r;have b:(qW W).length=4*l.length:=by rw[Zw,ZB]
 by_cases hi:i<m
 case neg=>
  have O:=zw hi;have ah:i=m:=wC
  have Y:l.take (k+i)=l:=qH wC;rw[Y] at d;have cb:(c:Int)<=(l.length:Int):=wC
  have ae:c<l.length:=wC
  have ai:c<=l.length:=wC
  have B:(dd l).length=c:=by rw[<-d,jc];omega
  simp[-qd,-qn,q0,q1,P,q6,S,O,g,b,cb,ae,show c*4+(l.length-c)*4<=4*l.length from wC,show 0<l.length-c from wC];have G:(qW W).take (c*4)=qW (dd l):=by rw[q5g,d]
  have ak:(qW (dd l)).length=c*4:=by rw[Zw,B];omega
  refine⟨hx.trans (Ext.set T p _) (NewL.refl _ _),.inr ⟨p,_,_,by rw[B],zj (qx g),?_,by rw[B];omega,fun j z t=>?_,rfl⟩⟩
  .simp[b];omega
  .have aj:=(List.getElem?_eq_some_iff.1 t).1;simp only[G];rw[List.drop_append_of_le_length wC,List.take_append_of_le_length xA];exact qbt t
 have O:=zq hi;obtain⟨h,hh⟩:∃h,i=h+1:=⟨i-1,wC⟩;have wi:=qz ((i:Int)-1) (h:Int);have K:=qz ((i:Int)+1) ((i+1:Nat):Int);have wc:=qz ((c:Int)+1) ((c+1:Nat):Int);obtain⟨u,hu,R⟩:=qcE (l:=W) (i:=k+h) wC;obtain⟨v,hv,N⟩:=qcE (l:=W) (i:=k+i) wC;rw[show(k+h)*4=k*4+h*4 from wC] at R;rw[show(k+i)*4=k*4+i*4 from wC] at N;have aa:=jr hx.len _ (hc u (n u (j7 hu)));have M:=jr hx.len _ (hc v (n v (j7 hv)));obtain⟨T2,F,x2⟩:=quB T v u M aa;simp only[jj] at F R N;have d1:(h:Int)<(m:Int):=wC
 have d3:k*4+h*4+4<=4*l.length:=wC
 have d4:k*4+i*4+4<=4*l.length:=wC
 have d5:4<=4*l.length-(k*4+h*4):=wC
 have d6:4<=4*l.length-(k*4+i*4):=wC
 have a:=quY (l:=l) (k:=k+h) (x:=u) (y:=v) (by rw[<-r _ wC];exact hu) (by rw[<-r _ wC,<-hv];congr 1;omega);rw[show k+h+2=k+(i+1) from wC,show k+h+1=k+i from wC] at a;have A:=hx.trans (x2.mono fun i hi=>wU) (NewL.refl [p] _);have g2:=x2.get g wE;by_cases w:v.s=u.s
 .rw[decide_eq_true w] at F;rw[if_pos w,J4] at a;simp[-qd,-qn,q0,q1,P,q6,S,O,g,b,wi,K,R,N,d1,d5,d6,F];exact⟨c,i+1,wC,wC,wC,wC,rfl,wC,A,W,g2,ZB,by rw[a];exact d,fun j t=>r j wC,n⟩
 .rw[decide_eq_false w] at F;rw[if_neg w] at a;have s1:=qe9 (l:=W) (j:=c) wC v;simp only[jj] at s1;obtain⟨T3,t3⟩:=ql (qn T2 p (qW (W.set c v)));have g3:=vV t3 g2;have x3:=vZ t3;have cc:(c:Int)<(l.length:Int):=by omega
  have ag:c*4+4<=4*l.length:=wC
  have am:4<=4*l.length-c*4:=wC
  have L:=jr x2.len _ M;simp[-qd,-qn,q0,q1,P,q6,S,O,g,b,wi,K,wc,R,N,d1,d5,d6,F,g2,cc,ag,s1,t3,L];refine⟨c+1,i+1,wC,wC,wC,wC,wC,wC,A.trans x3 (NewL.refl _ _),W.set c v,g3,by rw[vH];exact ZB,?_,fun j t=>?_,fun z hz=>?_⟩
  .rw[a,qhh (x:=v) (by rw[List.getElem?_set_self wC]),<-d];congr 1;rw[List.take_set_of_le (qA _)]
  .rw[List.getElem?_set_ne wC];exact r j wC
  .rcases qc9 hz with h|rfl
   .exact n z h
   .exact n z (j7 hv)
theorem qvw[MaxL][TxtC](H:qe)(x:Pl)(d:Nat)(hx:closed H.length x.f=true):∃T,call cx 129 [.agg (jj x),.int .u64 (d:Nat)] H=some (.int .i64 (Qx x.s d),T)/\Ext [] H T:=by
 have hc:=qlB x.s d;obtain⟨b,a⟩:=ql (qr H (jj x));have c:=zL a;have e:=js a;refine⟨b,j6 Tryz.func129 rfl ⟨rfl,rfl⟩ ?_,c⟩;simp only[jj] at *;simp[-qd,-qr,Tryz.f129,hc,a,e,hx]
theorem qvy(a b:Nat):Qx a b=0↔a=b:=by
 unfold Qx;by_cases h:a<b
 .simp[h];omega
 .by_cases c:b<a
  .simp[h,c];omega
  .simp[h,c];omega
def BsQ(H:qe)(l:List Pl)(d:Nat)(q:D×qe):Prop:=Ext [] H q.2/\∃i f,q.1=.tup [.int .i64 (i:Nat),.bool f]/\i<=l.length/\(∀j x,l[j]?=some x->(j<i↔x.s<d))/\(f=true↔∃x,l[i]?=some x/\x.s=d)
theorem q61[MaxL][TxtC]{H:qe}{v:D}{l:List Pl}{L:List Nat}(hr:RowF H v l L)(hc:∀x,x∈l->closed H.length x.f=true)(hl:l.length<=1000000)(hs:l.Pairwise (fun a b=>a.s<b.s))(d:Nat):
  ∃q,call cx 128 [v,.int .u64 (d:Nat),.fn 129 []] H=some q/\BsQ H l d q:=by
 refine vx (X:=cx) (f:=128) (BsQ H l d) Tryz.func128 rfl ⟨rfl,rfl⟩ ?_;rcases hr with⟨rfl,rfl,rfl⟩|⟨p,st,cs,rfl,hg,t,M,qR,rfl⟩
 .simp[-qd,Tryz.f128];refine Vb ?_;simp[-qd];exact⟨Ext.refl _ _,0,false,rfl,wE,wE,wE⟩
 have n:∀{i j:Nat}{x y:Pl},l[i]?=some x->l[j]?=some y->i<j->x.s<y.s:=fun{i j x y} hi V Y=>by
  obtain⟨h1,rfl⟩:=List.getElem?_eq_some_iff.1 hi;obtain⟨B,rfl⟩:=List.getElem?_eq_some_iff.1 V;exact List.pairwise_iff_getElem.1 hs i j h1 B Y
 simp[-qd,Tryz.f128]
 refine Run.loopThen (fun(q:Nat×Nat) e T=>q.1<=q.2/\q.2<=l.length/\qi e 0=some (.osl p st 0 l.length 4)/\qi e 1=some (.int .u64 (d:Nat))/\qi e 2=some (.fn 129 [])/\qi e 8=some (.int .i64 l.length)/\qi e 9=some (.int .i64 q.1)/\qi e 10=some (.int .i64 q.2)/\Ext [] H T/\
  (∀j x,l[j]?=some x->j<q.1->x.s<d)/\(∀j x,l[j]?=some x->q.2<=j->d<=x.s)) (fun q=>q.2-q.1) (0,l.length) ?_ ?_
 .exact⟨vp _,qA _,wE,wE,wE,wE,wE,wE,Ext.refl _ _,fun _ _ _ h=>absurd h (Nat.not_lt_zero _),fun j x V h=>absurd (List.getElem?_eq_some_iff.1 V).1 (by simp only at h;omega)⟩
 rintro⟨i,j⟩ e T ⟨h1,B,Q,J,N,K,I,g,hx,Z,W⟩;simp only at h1 B I g Z W;have u:=hx.get hg wE;by_cases qg:i<j
 .have G:=zq qg;obtain⟨w1,w2⟩:=qg1 (i:=i) (j:=j) wC;obtain⟨h,hh⟩:∃h,h=(i+j)/2:=⟨_,rfl⟩;rw[<-hh] at w2;have wh:=qz ((h:Int)+1) ((h+1:Nat):Int);obtain⟨x,m⟩:∃x,l[h]?=some x:=⟨_,qM wC⟩;have C:=qR h x m;obtain⟨T1,E,O⟩:=qvw T x d (jr hx.len _ (hc x (j7 m)));simp only[jj] at E C;have b1:(h:Int)<(l.length:Int):=by omega
  have b3:h*4+4<=st:=wC
  have P:4<=st-h*4:=wC
  by_cases S:x.s<d
  .have F:Qx x.s d<0:=(by rw[qbv];exact S);simp[-qd,Q,J,N,K,I,g,G,w1,w2,wh,u,t,C,b1,P,E,F];refine⟨h+1,j,wC,wC,B,wC,rfl,hx.trans O (NewL.refl _ _),fun k z o w=>?_,W⟩;rcases Nat.lt_or_eq_of_le (Nat.le_of_lt_succ w) with A|A
   .exact Nat.lt_trans (n o m A) S
   .subst A;rw[m] at o;cases o;exact S
  .have F:¬Qx x.s d<0:=(by rw[qbv];exact S);simp[-qd,Q,J,N,K,I,g,G,w1,w2,u,t,C,b1,P,E,F];refine⟨i,h,wC,wC,wC,rfl,rfl,hx.trans O (NewL.refl _ _),Z,fun k z o w=>?_⟩;rcases Nat.lt_or_eq_of_le w with A|A
   .have:=n m o A;omega
   .subst A;rw[m] at o;cases o;omega
 have G:=zw qg;have Y:i=j:=wC
 subst Y;have c:∀j x,l[j]?=some x->(j<i↔x.s<d):=fun k z o=>⟨Z k z o,fun hz=>Nat.lt_of_not_le fun M=>by have:=W k z o M;omega⟩;by_cases U:i<l.length
 case neg=>
  have r:=zw U;simp[-qd,Q,J,N,K,I,g,G,r];exact⟨hx,i,false,rfl,B,c,by simp[List.getElem?_eq_none (show l.length<=i from wC)]⟩
 have r:=zq U;obtain⟨x,m⟩:∃x,l[i]?=some x:=⟨_,qM U⟩;have C:=qR i x m;obtain⟨T1,E,O⟩:=qvw T x d (jr hx.len _ (hc x (j7 m)));simp only[jj] at E C;have b3:i*4+4<=st:=wC
 have P:4<=st-i*4:=wC
 by_cases R:x.s=d
 .have F:Qx x.s d=0:=(qvy _ _).2 R;simp[-qd,Q,J,N,K,I,g,G,r,u,t,C,P,E,F];exact⟨hx.trans O (NewL.refl _ _),i,true,rfl,B,c,by simp[m,R]⟩
 .have F:¬Qx x.s d=0:=fun h=>R ((qvy _ _).1 h);have JM:(Qx x.s d==0)=false:=by simpa using F
  simp[-qd,Q,J,N,K,I,g,G,r,u,t,C,P,E,JM];exact⟨hx.trans O (NewL.refl _ _),i,false,rfl,B,c,by simp[m,R]⟩
theorem qhZ(l:List UInt8)(h:l.length=16):∃r m g j i k n q o p f a d b e c:UInt8,l=[r,m,g,j,i,k,n,q,o,p,f,a,d,b,e,c]:=by
 match l,h with
 |[r,m,g,j,i,k,n,q,o,p,f,a,d,b,e,c],_=>exact⟨r,m,g,j,i,k,n,q,o,p,f,a,d,b,e,c,rfl⟩
def VN(id:List UInt8)(v:D)(a:Nat):List D:=qf id++[v,.int .u64 (a:Nat)]
def KH(id:List UInt8)(e:List D)(b:Bool)(fr a:Nat):List D:=qf id++(e++[.bool b,.int .u64 (fr:Nat),.int .u64 (a:Nat)])
def qgl:List D:=[.int .u64 0,.int .u64 0,.nilp,.int .i64 0]
def NxQ(H:qe)(id:List UInt8)(l:List Pl)(b d:Nat)(q:D×qe):Prop:=Ext [] H q.2/\∃e c a,q.1=.tup [.agg (KH id e c (if d<a then d+1 else 0) (if d<a then a else 0)),.bool (c||decide (d<a))]/\
 ((c=true/\∃k x,l[k]?=some x/\(∀(j:Nat)(z:Pl),l[j]?=some z->(j<k↔z.s<=d))/\e=jj x/\a+1=x.s)\/(c=false/\(∀z:Pl,z∈l->z.s<=d)/\e=qgl/\a=b))
theorem qfy{H T K:qe}{a b:Nat}(h:Ext [] H T)(c:Ext [a,b] T K)(d:H.length<=a)(e:H.length<=b):Ext [] H K:=
 ⟨zJ h.len c.len,fun i hi _=>by rw[c.out i (vd hi h.len) wG,h.out i hi wE]⟩
theorem qzZ[MaxL][TxtC]{H:qe}{v:D}{l:List Pl}{L:List Nat}(hr:RowF H v l L)(hv:closed H.length v=true)(hc:∀x,x∈l->closed H.length x.f=true)(hl:l.length<=1000000)(hs:l.Pairwise (fun a b=>a.s<b.s))(hb:∀x,x∈l->x.s<18446744073709551616)(id:List UInt8)(QS:id.length=16)(w d:Nat)(ht:w<18446744073709551616)(hd:d<18446744073709551616):
  ∃q,call cx 81 [.agg (VN id v w),.int .u64 (d:Nat)] H=some q/\NxQ H id l w d q:=by
 refine vx (X:=cx) (f:=81) (NxQ H id l w d) Tryz.func81 rfl ⟨rfl,rfl⟩ ?_;obtain⟨I,N,J,G,F,O,K,P,M,E,m,e,g,n,o,u,V⟩:=qhZ id QS;obtain⟨S,hS⟩:∃S,S=VN id v w:=⟨_,rfl⟩;obtain⟨A,e1⟩:=ql (qr H S);have x1:=zL e1;have aG:S=[.int .u8 I.toNat,.int .u8 N.toNat,.int .u8 J.toNat,.int .u8 G.toNat,.int .u8 F.toNat,.int .u8 O.toNat,.int .u8 K.toNat,.int .u8 P.toNat,.int .u8 M.toNat,.int .u8 E.toNat,.int .u8 m.toNat,.int .u8 e.toNat,.int .u8 g.toNat,.int .u8 n.toNat,.int .u8 o.toNat,.int .u8 u.toNat,v,.int .u64 (w:Nat)]:=by rw[hS,V];rfl
 have g1:=js e1;rw[<-hS];rw[aG] at e1 g1⊢;obtain⟨c,e2⟩:=ql (qr A (qI [.int .u64 0,.int .u64 0,.nilp,.int .i64 0,.bool false,.int .u64 0,.int .u64 0]));have x2:=zL e2;have ai:=x2.get g1 wE;have g2:=js e2;obtain⟨H3,e3⟩:=ql (qr c (qI [.int .u64 0,.int .u64 0,.nilp,.int .i64 0,.bool false,.int .u64 0,.int .u64 0]));have x3:=zL e3;have g3:=js e3;obtain⟨H4,e4⟩:=ql (qn H3 c.length [.int .u8 I.toNat,.int .u8 N.toNat,.int .u8 J.toNat,.int .u8 G.toNat,.int .u8 F.toNat,.int .u8 O.toNat,.int .u8 K.toNat,.int .u8 P.toNat,.int .u8 M.toNat,.int .u8 E.toNat,.int .u8 m.toNat,.int .u8 e.toNat,.int .u8 g.toNat,.int .u8 n.toNat,.int .u8 o.toNat,.int .u8 u.toNat,.int .u64 0,.int .u64 0,.nilp,.int .i64 0,.bool false,.int .u64 0,.int .u64 0]);have x4:=vZ e4;have g4:=vV e4 g3;have l1:H.length<A.length:=by have:=qx g1;exact this
 have l2:A.length<c.length:=qx g2
 have az:Ext [] A H4:=⟨by have:=x2.len;have:=x3.len;have:=x4.len;omega,fun i hi _=>by
  rw[x4.out i (by have:=x2.len;have:=x3.len;omega) wG,x3.out i (by have:=x2.len;omega) wE,x2.out i hi wE]⟩
 have ac:=az.get g1 wE;have aK:qd H4 A.length=some (qI [.int .u64 0,.int .u64 0,.nilp,.int .i64 0,.bool false,.int .u64 0,.int .u64 0]):=x4.get (x3.get g2 wE) wG
 have aC:RowF H4 v l L:=by
  rcases hr with hr|⟨p,st,cs,a1,a2,a3,a4,a5,a6⟩
  .exact .inl hr
  .exact .inr ⟨p,st,cs,a1,az.get (x1.get a2 wE) wE,a3,a4,a5,a6⟩
 have aA:Ext [] H H4:=x1.trans az (NewL.refl _ _);obtain⟨⟨r,T⟩,Yx,xT,i,f,rfl,hi,aw,hf⟩:=q61 aC (fun x hx=>jr aA.len _ (hc x hx)) hl hs d;simp only at xT;have XM:=xT.get g4 wE;have Y:=xT.get ac wE;have Z:=xT.get aK wE;have aO:closed H4.length v=true:=jr aA.len _ hv;obtain⟨k,hk⟩:∃k,k=if f=true then i+1 else i:=⟨_,rfl⟩
 have aq:∀{i j:Nat}{x y:Pl},l[i]?=some x->l[j]?=some y->i<j->x.s<y.s:=fun{i j x y} hi hj qS=>by
  obtain⟨h1,rfl⟩:=List.getElem?_eq_some_iff.1 hi;obtain⟨h2,rfl⟩:=List.getElem?_eq_some_iff.1 hj;exact List.pairwise_iff_getElem.1 hs i j h1 h2 qS
 have aa:∀(j:Nat)(z:Pl),l[j]?=some z->(j<k↔z.s<=d):=fun j z hj=>by
  have h1:=aw j z hj;cases f with
  |false=>
   have h2:¬∃x,l[i]?=some x/\x.s=d:=fun h=>by simpa using hf.2 h
   simp only[Qd,if_false] at hk;rw[hk];refine⟨fun h=>qfJ (h1.1 h),fun h=>?_⟩;rcases Nat.lt_or_eq_of_le h with h|h
   .exact h1.2 h
   .rcases Nat.lt_trichotomy j i with h'|h'|h'
    .exact h'
    .exact absurd ⟨z,h'▸hj,h⟩ h2
    .have vS:i<l.length:=Nat.lt_trans h' (List.getElem?_eq_some_iff.1 hj).1;have hx:=qM vS;have:=aq hx hj h';have:=(aw i _ hx).2 wC;omega
  |true=>
   obtain⟨x,aD,aS⟩:=hf.1 rfl;simp only[if_true] at hk;rw[hk];rcases Nat.lt_trichotomy j i with h'|h'|h'
   .have:=h1.1 h';omega
   .subst h';rw[aD] at hj;cases hj;omega
   .have:=aq aD hj h';omega
 have aR:A.length<T.length:=qx Z;have aU:c.length<T.length:=qx XM;have ae:Ext [] H T:=aA.trans xT (NewL.refl _ _);have aL:A.length≠c.length:=wC
 have ak:H.length<=A.length:=x1.len;have ag:H.length<=c.length:=zJ x1.len x2.len;rcases aC with⟨rfl,rfl,rfl⟩|⟨p,st,cs,rfl,aJ,aB,aN,qR,rfl⟩
 .have aF:i=0:=by simpa using hi
  have ao:f=false:=by cases f with|false=>rfl|true=>obtain⟨x,hx,-⟩:=hf.1 rfl;simp at hx
  subst aF ao;by_cases B:d<w
  .have U:=zq B;have wd:=zf ((d:Int)+1) ((d:Int)+1);have av:(0:Int)<(d:Int)+1:=wC;obtain⟨C,Q⟩:=ql (qn T c.length [.int .u8 I.toNat,.int .u8 N.toNat,.int .u8 J.toNat,.int .u8 G.toNat,.int .u8 F.toNat,.int .u8 O.toNat,.int .u8 K.toNat,.int .u8 P.toNat,.int .u8 M.toNat,.int .u8 E.toNat,.int .u8 m.toNat,.int .u8 e.toNat,.int .u8 g.toNat,.int .u8 n.toNat,.int .u8 o.toNat,.int .u8 u.toNat,.int .u64 0,.int .u64 0,.nilp,.int .i64 0,.bool false,.int .u64 ((d:Int)+1),.int .u64 0]);have k1:qd C c.length=some [.int .u8 I.toNat,.int .u8 N.toNat,.int .u8 J.toNat,.int .u8 G.toNat,.int .u8 F.toNat,.int .u8 O.toNat,.int .u8 K.toNat,.int .u8 P.toNat,.int .u8 M.toNat,.int .u8 E.toNat,.int .u8 m.toNat,.int .u8 e.toNat,.int .u8 g.toNat,.int .u8 n.toNat,.int .u8 o.toNat,.int .u8 u.toNat,.int .u64 0,.int .u64 0,.nilp,.int .i64 0,.bool false,.int .u64 ((d:Int)+1),.int .u64 0]:=yJ;have j1:=(Q▸Ext.set T c.length _:Ext [c.length] T C).get Z wG;have y1:Ext [c.length,A.length] T C:=(Q▸Ext.set T c.length _:Ext [c.length] T C).mono wE;obtain⟨T2,f2⟩:=ql (qn C c.length [.int .u8 I.toNat,.int .u8 N.toNat,.int .u8 J.toNat,.int .u8 G.toNat,.int .u8 F.toNat,.int .u8 O.toNat,.int .u8 K.toNat,.int .u8 P.toNat,.int .u8 M.toNat,.int .u8 E.toNat,.int .u8 m.toNat,.int .u8 e.toNat,.int .u8 g.toNat,.int .u8 n.toNat,.int .u8 o.toNat,.int .u8 u.toNat,.int .u64 0,.int .u64 0,.nilp,.int .i64 0,.bool false,.int .u64 ((d:Int)+1),.int .u64 w]);have k2:qd T2 c.length=some [.int .u8 I.toNat,.int .u8 N.toNat,.int .u8 J.toNat,.int .u8 G.toNat,.int .u8 F.toNat,.int .u8 O.toNat,.int .u8 K.toNat,.int .u8 P.toNat,.int .u8 M.toNat,.int .u8 E.toNat,.int .u8 m.toNat,.int .u8 e.toNat,.int .u8 g.toNat,.int .u8 n.toNat,.int .u8 o.toNat,.int .u8 u.toNat,.int .u64 0,.int .u64 0,.nilp,.int .i64 0,.bool false,.int .u64 ((d:Int)+1),.int .u64 w]:=yI;have j2:=(f2▸Ext.set C c.length _:Ext [c.length] C T2).get j1 wG;have y2:Ext [c.length,A.length] T T2:=y1.trans ((f2▸Ext.set C c.length _:Ext [c.length] C T2).mono wE) (NewL.refl _ _);obtain⟨R,W⟩:=ql (qn T2 A.length [.int .u8 I.toNat,.int .u8 N.toNat,.int .u8 J.toNat,.int .u8 G.toNat,.int .u8 F.toNat,.int .u8 O.toNat,.int .u8 K.toNat,.int .u8 P.toNat,.int .u8 M.toNat,.int .u8 E.toNat,.int .u8 m.toNat,.int .u8 e.toNat,.int .u8 g.toNat,.int .u8 n.toNat,.int .u8 o.toNat,.int .u8 u.toNat,.int .u64 0,.int .u64 0,.nilp,.int .i64 0,.bool false,.int .u64 ((d:Int)+1),.int .u64 w]);have k3:qd R A.length=some [.int .u8 I.toNat,.int .u8 N.toNat,.int .u8 J.toNat,.int .u8 G.toNat,.int .u8 F.toNat,.int .u8 O.toNat,.int .u8 K.toNat,.int .u8 P.toNat,.int .u8 M.toNat,.int .u8 E.toNat,.int .u8 m.toNat,.int .u8 e.toNat,.int .u8 g.toNat,.int .u8 n.toNat,.int .u8 o.toNat,.int .u8 u.toNat,.int .u64 0,.int .u64 0,.nilp,.int .i64 0,.bool false,.int .u64 ((d:Int)+1),.int .u64 w]:=(by rw[<-W];exact zj (qx j2));have j3:=(W▸Ext.set T2 A.length _:Ext [A.length] T2 R).get k2 wG;have y3:Ext [c.length,A.length] T R:=y2.trans ((W▸Ext.set T2 A.length _:Ext [A.length] T2 R).mono wE) (NewL.refl _ _);simp[-qd,-qr,-qn,Tryz.f81,e1,e2,ai,e3,g3,e4,ac,Yx,Y,XM,U,wd,av,Q,k1,f2,k2,j2,W,k3,j3];exact⟨by rw[<-W,kL];exact qA _,qfy ae y3 ag ak,qgl,false,w,by rw[V,if_pos B,if_pos B,decide_eq_true B];rfl,.inr ⟨rfl,wE,rfl,rfl⟩⟩
  .have U:=zw B;obtain⟨C,Q⟩:=ql (qn T A.length [.int .u8 I.toNat,.int .u8 N.toNat,.int .u8 J.toNat,.int .u8 G.toNat,.int .u8 F.toNat,.int .u8 O.toNat,.int .u8 K.toNat,.int .u8 P.toNat,.int .u8 M.toNat,.int .u8 E.toNat,.int .u8 m.toNat,.int .u8 e.toNat,.int .u8 g.toNat,.int .u8 n.toNat,.int .u8 o.toNat,.int .u8 u.toNat,.int .u64 0,.int .u64 0,.nilp,.int .i64 0,.bool false,.int .u64 0,.int .u64 0]);have k1:qd C A.length=some [.int .u8 I.toNat,.int .u8 N.toNat,.int .u8 J.toNat,.int .u8 G.toNat,.int .u8 F.toNat,.int .u8 O.toNat,.int .u8 K.toNat,.int .u8 P.toNat,.int .u8 M.toNat,.int .u8 E.toNat,.int .u8 m.toNat,.int .u8 e.toNat,.int .u8 g.toNat,.int .u8 n.toNat,.int .u8 o.toNat,.int .u8 u.toNat,.int .u64 0,.int .u64 0,.nilp,.int .i64 0,.bool false,.int .u64 0,.int .u64 0]:=(by rw[<-Q];exact zj (qx Z));have j1:=(Q▸Ext.set T A.length _:Ext [A.length] T C).get XM wG;have y1:Ext [c.length,A.length] T C:=(Q▸Ext.set T A.length _:Ext [A.length] T C).mono wE;simp[-qd,-qr,-qn,Tryz.f81,e1,e2,ai,e3,g3,e4,ac,Yx,Y,XM,Z,U,Q,k1,j1];exact⟨by rw[<-Q,kL];exact qA _,qfy ae y1 ag ak,qgl,false,w,by rw[V,if_neg B,if_neg B,decide_eq_false B];rfl,.inr ⟨rfl,wE,rfl,rfl⟩⟩
 have au:p<H.length:=by simpa[closed] using hv
 have ax:=xT.get aJ wE;rcases Bool.eq_false_or_eq_true f with ao|ao
 case' inl=>
  subst ao;simp only[if_true] at hk;have wi:=qz ((i:Int)+1) (k:Int)
 case' inr=>
  subst ao;simp only[Qd,if_false] at hk;subst hk;have wi:True:=trivial
 all_goals
  by_cases ay:k<l.length
  .have Yr:=zq ay;obtain⟨x,am⟩:∃x,l[k]?=some x:=⟨_,qM ay⟩;have ex:=qR k x am;simp only[jj] at ex;have aP:d<x.s:=Nat.lt_of_not_le fun h=>by have:=(aa k x am).2 h;omega
   have aQ:=hb x (j7 am);have aj:=jr ae.len _ (hc x (j7 am));obtain⟨ah,aE⟩:∃t,t+1=x.s:=⟨x.s-1,wC⟩;have wt:=zf ((x.s:Int)-1) (ah:Int);have b3:k*4+4<=st:=wC;have b5:4<=st-k*4:=wC;by_cases B:d<ah
   .have U:=zq B;have wd:=zf ((d:Int)+1) ((d:Int)+1);have av:(0:Int)<(d:Int)+1:=wC;obtain⟨C,Q⟩:=ql (qn T c.length [.int .u8 I.toNat,.int .u8 N.toNat,.int .u8 J.toNat,.int .u8 G.toNat,.int .u8 F.toNat,.int .u8 O.toNat,.int .u8 K.toNat,.int .u8 P.toNat,.int .u8 M.toNat,.int .u8 E.toNat,.int .u8 m.toNat,.int .u8 e.toNat,.int .u8 g.toNat,.int .u8 n.toNat,.int .u8 o.toNat,.int .u8 u.toNat,.int .u64 x.s,.int .u64 x.r,x.f,.int .i64 x.i,.bool false,.int .u64 0,.int .u64 0]);have k1:qd C c.length=some [.int .u8 I.toNat,.int .u8 N.toNat,.int .u8 J.toNat,.int .u8 G.toNat,.int .u8 F.toNat,.int .u8 O.toNat,.int .u8 K.toNat,.int .u8 P.toNat,.int .u8 M.toNat,.int .u8 E.toNat,.int .u8 m.toNat,.int .u8 e.toNat,.int .u8 g.toNat,.int .u8 n.toNat,.int .u8 o.toNat,.int .u8 u.toNat,.int .u64 x.s,.int .u64 x.r,x.f,.int .i64 x.i,.bool false,.int .u64 0,.int .u64 0]:=yJ;have j1:=(Q▸Ext.set T c.length _:Ext [c.length] T C).get Z wG;have y1:Ext [c.length,A.length] T C:=(Q▸Ext.set T c.length _:Ext [c.length] T C).mono wE;obtain⟨T2,f2⟩:=ql (qn C c.length [.int .u8 I.toNat,.int .u8 N.toNat,.int .u8 J.toNat,.int .u8 G.toNat,.int .u8 F.toNat,.int .u8 O.toNat,.int .u8 K.toNat,.int .u8 P.toNat,.int .u8 M.toNat,.int .u8 E.toNat,.int .u8 m.toNat,.int .u8 e.toNat,.int .u8 g.toNat,.int .u8 n.toNat,.int .u8 o.toNat,.int .u8 u.toNat,.int .u64 x.s,.int .u64 x.r,x.f,.int .i64 x.i,.bool true,.int .u64 0,.int .u64 0]);have k2:qd T2 c.length=some [.int .u8 I.toNat,.int .u8 N.toNat,.int .u8 J.toNat,.int .u8 G.toNat,.int .u8 F.toNat,.int .u8 O.toNat,.int .u8 K.toNat,.int .u8 P.toNat,.int .u8 M.toNat,.int .u8 E.toNat,.int .u8 m.toNat,.int .u8 e.toNat,.int .u8 g.toNat,.int .u8 n.toNat,.int .u8 o.toNat,.int .u8 u.toNat,.int .u64 x.s,.int .u64 x.r,x.f,.int .i64 x.i,.bool true,.int .u64 0,.int .u64 0]:=yI;have j2:=(f2▸Ext.set C c.length _:Ext [c.length] C T2).get j1 wG;have y2:Ext [c.length,A.length] T T2:=y1.trans ((f2▸Ext.set C c.length _:Ext [c.length] C T2).mono wE) (NewL.refl _ _);obtain⟨R,W⟩:=ql (qn T2 c.length [.int .u8 I.toNat,.int .u8 N.toNat,.int .u8 J.toNat,.int .u8 G.toNat,.int .u8 F.toNat,.int .u8 O.toNat,.int .u8 K.toNat,.int .u8 P.toNat,.int .u8 M.toNat,.int .u8 E.toNat,.int .u8 m.toNat,.int .u8 e.toNat,.int .u8 g.toNat,.int .u8 n.toNat,.int .u8 o.toNat,.int .u8 u.toNat,.int .u64 x.s,.int .u64 x.r,x.f,.int .i64 x.i,.bool true,.int .u64 ((d:Int)+1),.int .u64 0]);have k3:qd R c.length=some [.int .u8 I.toNat,.int .u8 N.toNat,.int .u8 J.toNat,.int .u8 G.toNat,.int .u8 F.toNat,.int .u8 O.toNat,.int .u8 K.toNat,.int .u8 P.toNat,.int .u8 M.toNat,.int .u8 E.toNat,.int .u8 m.toNat,.int .u8 e.toNat,.int .u8 g.toNat,.int .u8 n.toNat,.int .u8 o.toNat,.int .u8 u.toNat,.int .u64 x.s,.int .u64 x.r,x.f,.int .i64 x.i,.bool true,.int .u64 ((d:Int)+1),.int .u64 0]:=(by rw[<-W];exact zj (qx k2));have j3:=(W▸Ext.set T2 c.length _:Ext [c.length] T2 R).get j2 wG;have y3:Ext [c.length,A.length] T R:=y2.trans ((W▸Ext.set T2 c.length _:Ext [c.length] T2 R).mono wE) (NewL.refl _ _);obtain⟨T4,f4⟩:=ql (qn R c.length [.int .u8 I.toNat,.int .u8 N.toNat,.int .u8 J.toNat,.int .u8 G.toNat,.int .u8 F.toNat,.int .u8 O.toNat,.int .u8 K.toNat,.int .u8 P.toNat,.int .u8 M.toNat,.int .u8 E.toNat,.int .u8 m.toNat,.int .u8 e.toNat,.int .u8 g.toNat,.int .u8 n.toNat,.int .u8 o.toNat,.int .u8 u.toNat,.int .u64 x.s,.int .u64 x.r,x.f,.int .i64 x.i,.bool true,.int .u64 ((d:Int)+1),.int .u64 ah]);have k4:=vV f4 k3;have j4:=(f4▸Ext.set R c.length _:Ext [c.length] R T4).get j3 wG;have y4:Ext [c.length,A.length] T T4:=y3.trans ((f4▸Ext.set R c.length _:Ext [c.length] R T4).mono wE) (NewL.refl _ _);obtain⟨T5,f5⟩:=ql (qn T4 A.length [.int .u8 I.toNat,.int .u8 N.toNat,.int .u8 J.toNat,.int .u8 G.toNat,.int .u8 F.toNat,.int .u8 O.toNat,.int .u8 K.toNat,.int .u8 P.toNat,.int .u8 M.toNat,.int .u8 E.toNat,.int .u8 m.toNat,.int .u8 e.toNat,.int .u8 g.toNat,.int .u8 n.toNat,.int .u8 o.toNat,.int .u8 u.toNat,.int .u64 x.s,.int .u64 x.r,x.f,.int .i64 x.i,.bool true,.int .u64 ((d:Int)+1),.int .u64 ah]);have k5:=vV f5 j4;have j5:=(f5▸Ext.set T4 A.length _:Ext [A.length] T4 T5).get k4 wG;have y5:Ext [c.length,A.length] T T5:=y4.trans ((f5▸Ext.set T4 A.length _:Ext [A.length] T4 T5).mono wE) (NewL.refl _ _);have aH:closed T4.length x.f=true:=jr y4.len _ aj;have aM:closed T5.length x.f=true:=jr y5.len _ aj;simp[-qd,-qr,-qn,Tryz.f81,e1,e2,ai,e3,g3,e4,ac,au,Yx,Y,XM,wi,Yr,ax,aB,ex,b5,aj,wt,U,wd,aH,Q,k1,f2,k2,W,k3,f4,k4,j4,f5,k5];exact⟨by rw[<-f5,kL];exact qA _,qfy ae y5 ag ak,jj x,true,ah,by rw[V,if_pos B,if_pos B];rfl,.inl ⟨rfl,k,x,am,aa,rfl,aE⟩⟩
   .have U:=zw B;obtain⟨C,Q⟩:=ql (qn T c.length [.int .u8 I.toNat,.int .u8 N.toNat,.int .u8 J.toNat,.int .u8 G.toNat,.int .u8 F.toNat,.int .u8 O.toNat,.int .u8 K.toNat,.int .u8 P.toNat,.int .u8 M.toNat,.int .u8 E.toNat,.int .u8 m.toNat,.int .u8 e.toNat,.int .u8 g.toNat,.int .u8 n.toNat,.int .u8 o.toNat,.int .u8 u.toNat,.int .u64 x.s,.int .u64 x.r,x.f,.int .i64 x.i,.bool false,.int .u64 0,.int .u64 0]);have k1:qd C c.length=some [.int .u8 I.toNat,.int .u8 N.toNat,.int .u8 J.toNat,.int .u8 G.toNat,.int .u8 F.toNat,.int .u8 O.toNat,.int .u8 K.toNat,.int .u8 P.toNat,.int .u8 M.toNat,.int .u8 E.toNat,.int .u8 m.toNat,.int .u8 e.toNat,.int .u8 g.toNat,.int .u8 n.toNat,.int .u8 o.toNat,.int .u8 u.toNat,.int .u64 x.s,.int .u64 x.r,x.f,.int .i64 x.i,.bool false,.int .u64 0,.int .u64 0]:=yJ;have j1:=(Q▸Ext.set T c.length _:Ext [c.length] T C).get Z wG;have y1:Ext [c.length,A.length] T C:=(Q▸Ext.set T c.length _:Ext [c.length] T C).mono wE;obtain⟨T2,f2⟩:=ql (qn C c.length [.int .u8 I.toNat,.int .u8 N.toNat,.int .u8 J.toNat,.int .u8 G.toNat,.int .u8 F.toNat,.int .u8 O.toNat,.int .u8 K.toNat,.int .u8 P.toNat,.int .u8 M.toNat,.int .u8 E.toNat,.int .u8 m.toNat,.int .u8 e.toNat,.int .u8 g.toNat,.int .u8 n.toNat,.int .u8 o.toNat,.int .u8 u.toNat,.int .u64 x.s,.int .u64 x.r,x.f,.int .i64 x.i,.bool true,.int .u64 0,.int .u64 0]);have k2:qd T2 c.length=some [.int .u8 I.toNat,.int .u8 N.toNat,.int .u8 J.toNat,.int .u8 G.toNat,.int .u8 F.toNat,.int .u8 O.toNat,.int .u8 K.toNat,.int .u8 P.toNat,.int .u8 M.toNat,.int .u8 E.toNat,.int .u8 m.toNat,.int .u8 e.toNat,.int .u8 g.toNat,.int .u8 n.toNat,.int .u8 o.toNat,.int .u8 u.toNat,.int .u64 x.s,.int .u64 x.r,x.f,.int .i64 x.i,.bool true,.int .u64 0,.int .u64 0]:=yI;have j2:=(f2▸Ext.set C c.length _:Ext [c.length] C T2).get j1 wG;have y2:Ext [c.length,A.length] T T2:=y1.trans ((f2▸Ext.set C c.length _:Ext [c.length] C T2).mono wE) (NewL.refl _ _);obtain⟨R,W⟩:=ql (qn T2 A.length [.int .u8 I.toNat,.int .u8 N.toNat,.int .u8 J.toNat,.int .u8 G.toNat,.int .u8 F.toNat,.int .u8 O.toNat,.int .u8 K.toNat,.int .u8 P.toNat,.int .u8 M.toNat,.int .u8 E.toNat,.int .u8 m.toNat,.int .u8 e.toNat,.int .u8 g.toNat,.int .u8 n.toNat,.int .u8 o.toNat,.int .u8 u.toNat,.int .u64 x.s,.int .u64 x.r,x.f,.int .i64 x.i,.bool true,.int .u64 0,.int .u64 0]);have k3:qd R A.length=some [.int .u8 I.toNat,.int .u8 N.toNat,.int .u8 J.toNat,.int .u8 G.toNat,.int .u8 F.toNat,.int .u8 O.toNat,.int .u8 K.toNat,.int .u8 P.toNat,.int .u8 M.toNat,.int .u8 E.toNat,.int .u8 m.toNat,.int .u8 e.toNat,.int .u8 g.toNat,.int .u8 n.toNat,.int .u8 o.toNat,.int .u8 u.toNat,.int .u64 x.s,.int .u64 x.r,x.f,.int .i64 x.i,.bool true,.int .u64 0,.int .u64 0]:=(by rw[<-W];exact zj (qx j2));have j3:=(W▸Ext.set T2 A.length _:Ext [A.length] T2 R).get k2 wG;have y3:Ext [c.length,A.length] T R:=y2.trans ((W▸Ext.set T2 A.length _:Ext [A.length] T2 R).mono wE) (NewL.refl _ _);have aI:closed T2.length x.f=true:=jr y2.len _ aj;have aT:closed R.length x.f=true:=jr y3.len _ aj;simp[-qd,-qr,-qn,Tryz.f81,e1,e2,ai,e3,g3,e4,ac,au,Yx,Y,XM,wi,Yr,ax,aB,ex,b5,aj,wt,U,aI,Q,k1,f2,k2,j2,W,k3];exact⟨by rw[<-W,kL];exact qA _,qfy ae y3 ag ak,jj x,true,ah,by rw[V,if_neg B,if_neg B];rfl,.inl ⟨rfl,k,x,am,aa,rfl,aE⟩⟩
  .have Yr:=zw ay
   have ja:∀z,z∈l->z.s<=d:=fun z hz=>by
    obtain⟨j,hj⟩:=List.mem_iff_getElem?.1 hz;exact(aa j z hj).1 (by have:=(List.getElem?_eq_some_iff.1 hj).1;omega)
   by_cases B:d<w
   .have U:=zq B;have wd:=zf ((d:Int)+1) ((d:Int)+1);have av:(0:Int)<(d:Int)+1:=wC;obtain⟨C,Q⟩:=ql (qn T c.length [.int .u8 I.toNat,.int .u8 N.toNat,.int .u8 J.toNat,.int .u8 G.toNat,.int .u8 F.toNat,.int .u8 O.toNat,.int .u8 K.toNat,.int .u8 P.toNat,.int .u8 M.toNat,.int .u8 E.toNat,.int .u8 m.toNat,.int .u8 e.toNat,.int .u8 g.toNat,.int .u8 n.toNat,.int .u8 o.toNat,.int .u8 u.toNat,.int .u64 0,.int .u64 0,.nilp,.int .i64 0,.bool false,.int .u64 ((d:Int)+1),.int .u64 0]);have k1:qd C c.length=some [.int .u8 I.toNat,.int .u8 N.toNat,.int .u8 J.toNat,.int .u8 G.toNat,.int .u8 F.toNat,.int .u8 O.toNat,.int .u8 K.toNat,.int .u8 P.toNat,.int .u8 M.toNat,.int .u8 E.toNat,.int .u8 m.toNat,.int .u8 e.toNat,.int .u8 g.toNat,.int .u8 n.toNat,.int .u8 o.toNat,.int .u8 u.toNat,.int .u64 0,.int .u64 0,.nilp,.int .i64 0,.bool false,.int .u64 ((d:Int)+1),.int .u64 0]:=yJ;have j1:=(Q▸Ext.set T c.length _:Ext [c.length] T C).get Z wG;have y1:Ext [c.length,A.length] T C:=(Q▸Ext.set T c.length _:Ext [c.length] T C).mono wE;obtain⟨T2,f2⟩:=ql (qn C c.length [.int .u8 I.toNat,.int .u8 N.toNat,.int .u8 J.toNat,.int .u8 G.toNat,.int .u8 F.toNat,.int .u8 O.toNat,.int .u8 K.toNat,.int .u8 P.toNat,.int .u8 M.toNat,.int .u8 E.toNat,.int .u8 m.toNat,.int .u8 e.toNat,.int .u8 g.toNat,.int .u8 n.toNat,.int .u8 o.toNat,.int .u8 u.toNat,.int .u64 0,.int .u64 0,.nilp,.int .i64 0,.bool false,.int .u64 ((d:Int)+1),.int .u64 w]);have k2:qd T2 c.length=some [.int .u8 I.toNat,.int .u8 N.toNat,.int .u8 J.toNat,.int .u8 G.toNat,.int .u8 F.toNat,.int .u8 O.toNat,.int .u8 K.toNat,.int .u8 P.toNat,.int .u8 M.toNat,.int .u8 E.toNat,.int .u8 m.toNat,.int .u8 e.toNat,.int .u8 g.toNat,.int .u8 n.toNat,.int .u8 o.toNat,.int .u8 u.toNat,.int .u64 0,.int .u64 0,.nilp,.int .i64 0,.bool false,.int .u64 ((d:Int)+1),.int .u64 w]:=yI;have j2:=(f2▸Ext.set C c.length _:Ext [c.length] C T2).get j1 wG;have y2:Ext [c.length,A.length] T T2:=y1.trans ((f2▸Ext.set C c.length _:Ext [c.length] C T2).mono wE) (NewL.refl _ _);obtain⟨R,W⟩:=ql (qn T2 A.length [.int .u8 I.toNat,.int .u8 N.toNat,.int .u8 J.toNat,.int .u8 G.toNat,.int .u8 F.toNat,.int .u8 O.toNat,.int .u8 K.toNat,.int .u8 P.toNat,.int .u8 M.toNat,.int .u8 E.toNat,.int .u8 m.toNat,.int .u8 e.toNat,.int .u8 g.toNat,.int .u8 n.toNat,.int .u8 o.toNat,.int .u8 u.toNat,.int .u64 0,.int .u64 0,.nilp,.int .i64 0,.bool false,.int .u64 ((d:Int)+1),.int .u64 w]);have k3:qd R A.length=some [.int .u8 I.toNat,.int .u8 N.toNat,.int .u8 J.toNat,.int .u8 G.toNat,.int .u8 F.toNat,.int .u8 O.toNat,.int .u8 K.toNat,.int .u8 P.toNat,.int .u8 M.toNat,.int .u8 E.toNat,.int .u8 m.toNat,.int .u8 e.toNat,.int .u8 g.toNat,.int .u8 n.toNat,.int .u8 o.toNat,.int .u8 u.toNat,.int .u64 0,.int .u64 0,.nilp,.int .i64 0,.bool false,.int .u64 ((d:Int)+1),.int .u64 w]:=(by rw[<-W];exact zj (qx j2));have j3:=(W▸Ext.set T2 A.length _:Ext [A.length] T2 R).get k2 wG;have y3:Ext [c.length,A.length] T R:=y2.trans ((W▸Ext.set T2 A.length _:Ext [A.length] T2 R).mono wE) (NewL.refl _ _);simp[-qd,-qr,-qn,Tryz.f81,e1,e2,ai,e3,g3,e4,ac,au,Yx,Y,XM,wi,Yr,U,wd,av,Q,k1,f2,k2,j2,W,k3,j3];exact⟨by rw[<-W,kL];exact qA _,qfy ae y3 ag ak,qgl,false,w,by rw[V,if_pos B,if_pos B,decide_eq_true B];rfl,.inr ⟨rfl,ja,rfl,rfl⟩⟩
   .have U:=zw B;obtain⟨C,Q⟩:=ql (qn T A.length [.int .u8 I.toNat,.int .u8 N.toNat,.int .u8 J.toNat,.int .u8 G.toNat,.int .u8 F.toNat,.int .u8 O.toNat,.int .u8 K.toNat,.int .u8 P.toNat,.int .u8 M.toNat,.int .u8 E.toNat,.int .u8 m.toNat,.int .u8 e.toNat,.int .u8 g.toNat,.int .u8 n.toNat,.int .u8 o.toNat,.int .u8 u.toNat,.int .u64 0,.int .u64 0,.nilp,.int .i64 0,.bool false,.int .u64 0,.int .u64 0]);have k1:qd C A.length=some [.int .u8 I.toNat,.int .u8 N.toNat,.int .u8 J.toNat,.int .u8 G.toNat,.int .u8 F.toNat,.int .u8 O.toNat,.int .u8 K.toNat,.int .u8 P.toNat,.int .u8 M.toNat,.int .u8 E.toNat,.int .u8 m.toNat,.int .u8 e.toNat,.int .u8 g.toNat,.int .u8 n.toNat,.int .u8 o.toNat,.int .u8 u.toNat,.int .u64 0,.int .u64 0,.nilp,.int .i64 0,.bool false,.int .u64 0,.int .u64 0]:=(by rw[<-Q];exact zj (qx Z));have j1:=(Q▸Ext.set T A.length _:Ext [A.length] T C).get XM wG;have y1:Ext [c.length,A.length] T C:=(Q▸Ext.set T A.length _:Ext [A.length] T C).mono wE;simp[-qd,-qr,-qn,Tryz.f81,e1,e2,ai,e3,g3,e4,ac,au,Yx,Y,XM,Z,wi,Yr,U,Q,k1,j1];exact⟨by rw[<-Q,kL];exact qA _,qfy ae y1 ag ak,qgl,false,w,by rw[V,if_neg B,if_neg B,decide_eq_false B];rfl,.inr ⟨rfl,ja,rfl,rfl⟩⟩
end Go.Ev.S
namespace Go.Ev
open Go Go.Proofs
section
variable {P:Program} {n:Nat} {t e:TypeId} {cs:List D}
theorem q3O{k:IntKind}(a:P.underlying t=some (.int k))(h:Jf P (n+1) t cs):∃x,cs=[.int k x]/\(Lit.int k x).wf=true:=by
 unfold Jf at h;rw[a] at h;exact h
def qhR(n:Int):Prop:= -9223372036854775808<=n/\n<9223372036854775808
theorem qt3(c:P.underlying t=some (.int .i64))(h:Jf P (n+1) t cs):∃x,cs=[.int .i64 x]/\qhR x:=by
 obtain⟨x,b,a⟩:=q3O c h;refine⟨x,b,?_⟩;simp[Lit.wf,IntKind.min,IntKind.max,IntKind.signed,IntKind.bits] at a;unfold qhR;omega
theorem qnp{α:Type}[Enc α]{R:α->Prop}{Q:List D->Prop}(d:∀l,Q l->∃a:α,l=Enc.cells a/\R a):∀(b:List (List D)),(∀l,l∈b->Q l)->∃s:List α,b.flatten=qt s/\s.length=b.length/\∀a,a∈s->R a
 |[],_=>⟨[],rfl,rfl,wE⟩
 |l::b,h=>by
  obtain⟨x,hx,g⟩:=d l (h l (Jd ..));obtain⟨s,i,f,e⟩:=qnp d b fun k j=>h k (vy _ j);refine⟨x::s,by rw[qma,hx,i,qaw],by simp[f],fun a c=>?_⟩;rcases List.mem_cons.1 c with rfl|c
  .exact g
  .exact e a c
theorem qt2{α:Type}[Enc α]{R:α->Prop}(c:P.underlying t=some (.slice e))(m:∀l,Jf P n e l->∃a:α,l=Enc.cells a/\R a)(h:Jf P (n+1) t cs):∃s:Sl α,cs=[(.vsl s.nil (qt s.l) s.l.length)]/\s.l.length<=maxLen/\∀a,a∈s.l->R a:=by
 unfold Jf at h;rw[c] at h;rcases h with rfl|⟨o,j,f,d⟩
 .exact⟨.none,rfl,wE,wE⟩
 .obtain⟨s,g,b,i⟩:=qnp m o fun l k=>(d l k).2;exact⟨.of s,by rw[j,g,<-b];rfl,by simp only[Sl.of_l];have:=f.1;omega,i⟩
end
theorem qve{W:World}{d:D}{v:Value}(h:Cor W [d] v.cells.toList)(b:v.oneCell'=true):Rep (· <W.heap.size) W jA [] d v:=by
 have a:v.cells.toList=[v]:=by
  cases v<;>first|rfl|simp[Value.oneCell'] at b
 rw[a] at h;exact h.2.2 0 d rfl
end Go.Ev
namespace Go.Ev
open Go Go.Proofs
theorem qzJ{P:Program}{W:World}{base:Nat}{t e:TypeId}{v:Value}(a:P.underlying t=some (.slice e))(h:Value.okWide P W .any base t v):v.oneCell'=true:=by
 simp only[Value.okWide,a,Cell.okWide] at h;cases v<;>first|rfl|simp[Cell.ok,a] at h
theorem qzK{P:Program}{W:World}{base:Nat}{t:TypeId}{k:IntKind}{v:Value}(a:P.underlying t=some (.int k))(h:Value.okWide P W .any base t v):v.oneCell'=true:=by
 simp only[Value.okWide,a,Cell.okWide] at h;cases v<;>first|rfl|simp[Cell.ok,a] at h
section
variable {H:Type} {enc:TypeId×Value->H} {P:Program} {W:World} {base n:Nat} {t e:TypeId} {v:Value} {d:DataW H} {ps:List MemPlace}
theorem q6C{α:Type}[Enc α]{R:α->Prop}(b:P.underlying t=some (.slice e))(m:∀l,Jf P n e l->∃a:α,l=Enc.cells a/\R a)(f:qc8 P (n+1) t=true)(c:Value.okWide P W .any base t v)(h:DataW.Trod enc P W 0 (fun _=>true) true t v d ps/\Wok P t d):
  ∃s:Sl α,Rep (· <W.heap.size) W jA [] (.vsl s.nil (qt s.l) s.l.length) v/\s.l.length<=maxLen/\∀a,a∈s.l->R a:=by
 obtain⟨ds,j,g⟩:=qnD f h;obtain⟨s,rfl,k,i⟩:=qt2 b m j;exact⟨s,qve g (qzJ b c),k,i⟩
theorem q6D(a:P.underlying t=some (.int .i64))(e:qc8 P (n+1) t=true)(c:Value.okWide P W .any base t v)(h:DataW.Trod enc P W 0 (fun _=>true) true t v d ps/\Wok P t d):∃b,Rep (· <W.heap.size) W jA [] (.int .i64 b) v/\qhR b:=by
 obtain⟨ds,g,f⟩:=qnD e h;obtain⟨b,rfl,i⟩:=qt3 a g;exact⟨b,qve f (qzK a c),i⟩
end
theorem qyL{ok:Nat->Prop}{w:World}{ι:qU}{H:qe}:RepL ok w ι H [] []:=⟨rfl,wE⟩
theorem qjG{ok:Nat->Prop}{w:World}{ι:qU}{H:qe}{d:D}{v:Value}{ds:List D}{vs:List Value}(h:Rep ok w ι H d v)(b:RepL ok w ι H ds vs):RepL ok w ι H (d::ds) (v::vs):=by
 refine⟨by simp[b.1],fun j x a=>?_⟩;cases j with
 |zero=>simp at a;subst a;exact h
 |succ j=>exact b.2 j x wZ
end Go.Ev
namespace Go.Ev.S
open Go Go.Proofs Go.Ev
theorem qvk[MaxL][TxtC](x y:Sl UInt8):call cx 69 [(.vsl x.nil (qf x.l) x.l.length),(.vsl y.nil (qf y.l) y.l.length)] []=some (.int .i64 (zn x.l y.l),[]):=by
 have h:call cx 121 [(.vsl x.nil (qf x.l) x.l.length),(.vsl y.nil (qf y.l) y.l.length)] []=some (.int .i64 (zn x.l y.l),[]):=by
  rw[qiC (X:=cx) (f:=121) rfl Tryz.func121 rfl,quv,q5S x.nil y.nil x.l y.l x.h y.h];rfl
 refine qC Tryz.func69 rfl ⟨rfl,rfl⟩ ?_;simp[Tryz.f69,h]
theorem qvj[MaxL][TxtC](x y:ID):call cx 69 [.vsl false (qf x.l) 16,.vsl false (qf y.l) 16] []=some (.int .i64 (zn x.l y.l),[]):=by
 have h:=qvk (.of x.l) (.of y.l);simpa using h
theorem qzE[MaxL][TxtC](a b:Int):call cx 131 [.vsl false [.int .i64 a,.int .i64 b] 2] []=some (.int .i64 (if a=0 then b else a),[]):=by
 refine qC Tryz.func131 rfl ⟨rfl,rfl⟩ ?_;have g:IntKind.i64.wrap (0+1)=1:=rfl;have h:IntKind.i64.wrap (1+1)=2:=rfl;simp[Tryz.f131];refine Vb ?_;by_cases c:a=0
 case neg=>
  have e:(a !=0)=true:=wo
  simp[c,e]
 subst c;simp;refine Vb ?_;by_cases d:b=0
 case neg=>
  have f:(b !=0)=true:=xB
  simp[f]
 subst d;simp;refine Vb ?_;simp
theorem q0q(ds:List D):qr [] ds=[some ds]:=rfl
def qjS(d c:Bool)(a b:Nat)(e f:List UInt8):Int:=
 if d&& !c then-1 else if c&& !d then 1 else if Qx a b=0 then zn e f else Qx a b
def Yb(s r:Nat)(f:D)(i:Int):List D:=[.int .u64 (s:Nat),.int .u64 (r:Nat),f,.int .i64 i]
theorem q07[MaxL][TxtC](H:qe)(b c:List UInt8)(p:b.length=16)(m:c.length=16)(I e s d:Nat)(k f:D)(y t:Int)(i g:Bool)(v u C r:Nat)(ca:closed H.length k=true)(cb:closed H.length f=true):
  ∃T,call cx 84 [.agg (KH b (Yb I e k y) i v u),.agg (KH c (Yb s d f t) g C r)] H=some (.int .i64 (qjS i g e d b c),T)/\Ext [] H T:=by
 obtain⟨a0,a1,a2,a3,a4,a5,a6,a7,a8,a9,P,M,Y,V,N,Q,q⟩:=qhZ b p;obtain⟨b0,b1,b2,b3,b4,b5,b6,b7,b8,b9,L,K,O,R,Z,X,kx⟩:=qhZ c m;have a:=qvk ⟨false,b,wE⟩ ⟨false,c,wE⟩;have hc:=qlB e d;have G:=qzE (Qx e d) (zn b c);obtain⟨z,W⟩:∃z,z=zn b c:=⟨_,rfl⟩;obtain⟨A,j⟩:∃A,A=KH b (Yb I e k y) i v u:=⟨_,rfl⟩;obtain⟨B,h⟩:∃B,B=KH c (Yb s d f t) g C r:=⟨_,rfl⟩;unfold qjS;rw[<-j,<-h];rw[<-W] at a G⊢;rw[q] at j a;rw[kx] at h a;simp[KH,Yb,qf] at j h a;obtain⟨F,l⟩:=ql (qr H A);obtain⟨E,e2⟩:=ql (qr F B);have w:=zL l;have x:=zL e2;have S:=js l;have J:=x.get S wE;have U:=js e2;have n:closed F.length f=true:=jr w.len _ cb;have o:Ext [] H E:=w.trans x (NewL.refl _ _);subst j h;refine⟨E,j6 Tryz.func84 rfl ⟨rfl,rfl⟩ ?_,o⟩;cases i<;>cases g<;>simp[-qd,-qr,Tryz.f84,l,e2,J,U,ca,n,hc,a,G,q0q]
structure NxV where
 id:List UInt8
 s:Nat
 r:Nat
 f:D
 i:Int
 th:Bool
 fr:Nat
 tt:Nat
def NxV.c(x:NxV):List D:=KH x.id (Yb x.s x.r x.f x.i) x.th x.fr x.tt
structure NxV.Ok (x:NxV) (n:Nat):Prop where
 id:x.id.length=16
 f:closed n x.f=true
theorem NxV.Ok.mono{x:NxV}{n m:Nat}(h:x.Ok n)(a:n<=m):x.Ok m:=⟨h.id,jr a _ h.f⟩
theorem NxV.len{x:NxV}{n:Nat}(h:x.Ok n):x.c.length=23:=by simp[NxV.c,KH,Yb,h.id]
theorem qlD(n:Nat)(l:List UInt8):(qf l).all (closed n)=true:=List.all_eq_true.2 fun d a=>by
 simp only[qf,ZI] at a;obtain⟨c,-,rfl⟩:=a;rfl
theorem NxV.cl{x:NxV}{n:Nat}(h:x.Ok n):x.c.all (closed n)=true:=by
 simp only[NxV.c,KH,Yb,List.all_append,qlD,Va,List.all_nil,h.f];rfl
def JV(l:List NxV):List D:=l.flatMap NxV.c
theorem qi0{n:Nat}:∀{l:List NxV}(_:∀x,x∈l->x.Ok n),(JV l).length=23*l.length
 |[],_=>rfl
 |x::l,h=>by
  have c:=qi0 (l:=l) fun y a=>h y (vy _ a);have b:=NxV.len (h x wE);simp only[JV,List.flatMap_cons,zo,jJ] at *;omega
theorem quN{n:Nat}:∀{l:List NxV}(_:∀x,x∈l->x.Ok n)(j:Nat),(JV l).drop (j*23)=JV (l.drop j)
 |l,_,0=>by simp
 |[],_,j+1=>by simp[JV]
 |x::l,h,j+1=>by
  have a:=quN (l:=l) (fun y b=>h y (vy _ b)) j;have c:=NxV.len (h x wE);rw[List.drop_succ_cons,<-a,show(j+1)*23=23+j*23 from wC,<-kz];congr 1;simp only[JV,List.flatMap_cons];rw[List.drop_append_of_le_length wC,List.drop_of_length_le wC,QW]
theorem quM{n:Nat}{l:List NxV}(h:∀x,x∈l->x.Ok n){j:Nat}{x:NxV}(b:l[j]?=some x):((JV l).drop (j*23)).take 23=x.c:=by
 obtain⟨a,rfl⟩:=List.getElem?_eq_some_iff.1 b;have d:=NxV.len (h _ (vC a));rw[quN h,jo a];simp only[JV,List.flatMap_cons];rw[List.take_append_of_le_length wC,qH wC]
def qcU(x y:NxV):Int:=qjS x.th y.th x.r y.r x.id y.id
def ZR(m:NxV):List NxV->NxV
 |[]=>m
 |y::l=>ZR (if qcU y m<0 then y else m) l
theorem qoM:∀(l:List NxV)(m y:NxV),ZR m (l++[y])=if qcU y (ZR m l)<0 then y else ZR m l
 |[],_,_=>rfl
 |_::l,_,y=>qoM l _ y
theorem qhC:∀(l:List NxV)(m:NxV),ZR m l∈m::l
 |[],m=>by simp[ZR]
 |y::l,m=>by
  have:=qhC l (if qcU y m<0 then y else m);rw[ZR];rcases List.mem_cons.1 this with h|h
  .rw[h];split<;>simp
  .simp[h]
theorem qzC[MaxL][TxtC](H:qe)(x y:NxV)(hx:x.Ok H.length)(a:y.Ok H.length):∃T,call cx 84 [.agg x.c,.agg y.c] H=some (.int .i64 (qcU x y),T)/\Ext [] H T:=
 q07 H x.id y.id hx.id a.id x.s x.r y.s y.r x.f y.f x.i y.i x.th y.th x.fr x.tt y.fr y.tt hx.f a.f
def qwb(H:qe)(x:NxV)(l:List NxV)(q:D×qe):Prop:=Ext [] H q.2/\q.1=.agg (ZR x l).c
theorem q0C[MaxL][TxtC]{H:qe}{p:Nat}{a:NxV}{l:List NxV}(I:qd H p=some (JV (a::l)))(o:∀x,x∈a::l->x.Ok H.length)(hl:l.length<1000000):
  ∃q,call cx 83 [.osl p (23*(a::l).length) 0 (a::l).length 23,.fn 84 []] H=some q/\qwb H a l q:=by
 obtain⟨L,w⟩:∃L,L=a::l:=⟨_,rfl⟩;have ai:L.length=l.length+1:=by rw[w];rfl
 rw[<-w] at I o⊢;have V:(JV L).length=23*L.length:=qi0 o;refine vx (X:=cx) (f:=83) (qwb H a l) Tryz.func83 rfl ⟨rfl,rfl⟩ ?_;obtain⟨Z,hZ⟩:∃Z,Z=(qI [.int .u64 0,.int .u64 0,.nilp,.int .i64 0,.bool false,.int .u64 0,.int .u64 0]):=⟨_,rfl⟩;have ag:Z.length=23:=by rw[hZ];rfl
 obtain⟨d,P⟩:=ql (qr H Z);obtain⟨J,e2⟩:=ql (qr d Z);obtain⟨H3,W⟩:=ql (qn J d.length a.c);have u:=zL P;have r:=zL e2;have x3:=vZ W;have M:=js P;have g2:=js e2;have g3:=vV W g2;have aj:H.length<d.length:=qx M;have ak:p<H.length:=qx I;have kC:qd d p=some (JV L):=u.get I wE;have b3:0<L.length:=wC
 have Js:qd J p=some (JV L):=r.get (u.get I wE) wE;have ah:qd H3 p=some (JV L):=x3.get Js wG;have ae:qd H3 H.length=some Z:=x3.get (r.get M wE) wG;have G:=o a (by rw[w];simp);have l0:a.c.length=23:=NxV.len G;have c0:=eq_true (List.all_eq_true.1 (NxV.cl (G.mono (zJ u.len r.len))));have C:=quM (j:=0) o (x:=a) (by rw[w];rfl);simp only[Nat.zero_mul,List.drop_zero] at C;have b0:¬(L.length:Int)<1:=wC
 have b1:(0:Int)<(L.length:Int):=wC
 have b2:23<=23*L.length:=wC
 have sz:zT Z 0 a.c=a.c:=by unfold zT;rw[l0,List.drop_of_length_le wC];simp
 rw[hZ] at P e2 M g2 ae sz
 have v:∀{cs xs:List D},cs.length=23->xs.length=23->List.take 0 cs++(xs++List.drop 23 cs)=xs:=fun h1 h2=>by
  rw[List.drop_of_length_le wC];simp
 have U:∀k,(ZR a (l.take k)).Ok H.length:=fun k=>o _ (by
  rw[w];rcases List.mem_cons.1 (qhC (l.take k) a) with h|h
  .rw[h];simp
  .exact vy _ (QX h))
 simp[-qd,-qr,-qn,Tryz.f83,b0,b2,b3,P,e2,W,kC,g2,V,C,l0,c0];refine Run.loopThen (fun(k:Nat) e T=>1<=k/\k<=L.length/\qi e 0=some (.osl p (23*L.length) 0 L.length 23)/\qi e 1=some (.fn 84 [])/\qi e 4=some (.optr H.length 23 0)/\qi e 5=some (.optr d.length 23 0)/\qi e 6=some (.int .i64 k)/\Ext [d.length] J T/\qd T d.length=some (ZR a (l.take (k-1))).c) (fun k=>L.length-k) 1 ?_ ?_
 .exact⟨qA _,wC,wE,wE,wE,wE,wE,x3,by simpa[ZR] using g3⟩
 rintro k e T ⟨k1,k2,p0,p1,p4,p5,p6,hx,z⟩;have s:qd T p=some (JV L):=hx.get Js wG;have B:qd T H.length=some _:=hx.get (r.get M wE) wG;have F:H.length<=T.length:=zJ (zJ u.len r.len) hx.len;obtain⟨m,A⟩:∃m,m=ZR a (l.take (k-1)):=⟨_,rfl⟩;rw[<-A] at z;have om:m.Ok H.length:=A▸U _;have lm:=NxV.len om;have tm:List.take 23 m.c=m.c:=qH wC;by_cases qg:k<L.length
 case neg=>
  have O:=zw qg;have cm:=eq_true (List.all_eq_true.1 (NxV.cl (om.mono F)));obtain⟨T1,R⟩:=ql (qn T H.length m.c);have S:=vV R B;simp[-qd,-qn,p0,p1,p4,p5,p6,O,z,lm,tm,B,R,cm,S];have hk:k-1=l.length:=wC
  rw[hk,List.take_length] at A;have xt:=vZ R;refine⟨⟨zJ F xt.len,fun i hi _=>?_⟩,by rw[A]⟩;rw[xt.out i wC wG,hx.out i (by have:=u.len;have:=r.len;omega) wG,r.out i (by have:=u.len;omega) wE,u.out i hi wE]
 have O:=zq qg;obtain⟨y,N⟩:∃y,L[k]?=some y:=⟨_,qM qg⟩;have ey:=quM o N;have Q:=o y (j7 N);have ly:=NxV.len Q;have wk:=qz ((k:Int)+1) ((k+1:Nat):Int);obtain⟨T1,c1,g⟩:=qzC T y m (Q.mono F) (om.mono F);have d1:23<=23*L.length-k*23:=wC
 have d2:k*23+23<=23*L.length:=wC
 have t:=g.get z wE;have n:Ext [d.length] J T1:=hx.trans (g.mono fun i hi=>wU) (NewL.refl _ _)
 have b:ZR a (l.take k)=if qcU y m<0 then y else m:=by
  have Y:l[k-1]?=some y:=by rw[w] at N;rw[<-N,show k=(k-1)+1 from wC];rfl
  have:l.take k=l.take (k-1)++[y]:=by
   obtain⟨h1,h2⟩:=List.getElem?_eq_some_iff.1 Y;rw[show k=(k-1)+1 from wC,Ky h1,h2];rfl
  rw[this,qoM,<-A]
 by_cases K:qcU y m<0
 .rw[if_pos K] at b;have cy:=eq_true (List.all_eq_true.1 (NxV.cl (Q.mono (zJ F g.len))));obtain⟨T2,t2⟩:=ql (qn T1 d.length y.c);have aa:=vZ t2;have ac:=vV t2 t;have E:=g.get s wE;simp[-qd,-qn,p0,p1,p4,p5,p6,O,s,V,ey,d1,z,lm,tm,ly,c1,K,wk,E,t,cy];have Xf:y.c++List.drop 23 m.c=y.c:=by rw[List.drop_of_length_le wC];simp
  rw[Xf,t2];exact⟨k+1,wC,wC,wC,wC,n.trans aa (NewL.refl _ _),by rw[ac,show k+1-1=k from wC,b]⟩
 .rw[if_neg K] at b;simp[-qd,-qn,p0,p1,p4,p5,p6,O,s,V,ey,d1,z,lm,tm,c1,K,wk];exact⟨k+1,wC,wC,wC,wC,n,by rw[t,show k+1-1=k from wC,b]⟩
end Go.Ev.S
namespace Go.Ev
open Go Go.Proofs
structure HdP where
 compat:Nat
 incompat:Nat
 state:Nat
 file:ID
 machine:ID
 boot:ID
 seq:ID
 n:List Nat
 hn:n.length=21
 ta:Nat
 ti:Nat
 te:Nat
def qP(k:IntKind)(l:List Nat):List D:=l.map fun x:Nat=>D.int k (x:Int)
@[simp] theorem qkh (k:IntKind) (l:List Nat):(qP k l).length=l.length:=by simp[qP]
@[simp] theorem q0r (k:IntKind) (l:List Nat):(qP k l).all idFree=true:=by simp[qP,idFree]
@[simp] theorem q9D (k:IntKind) (l:List Nat):idFree.idFreeL (qP k l)=true:=by rw[Q0];exact q0r k l
theorem qes{k:IntKind}{l:List Nat}{i:Nat}(h:i<l.length):(qP k l).drop i=.int k (l[i]:Nat)::qP k (l.drop (i+1)):=by
 unfold qP;rw[<-List.map_drop,jo h];rfl
theorem qki(k:IntKind)(a b:List Nat):qP k (a++b)=qP k a++qP k b:=by simp[qP]
instance:Enc HdP:=⟨91,fun h=>.int .u32 h.compat:: .int .u32 h.incompat:: .int .i64 h.state::(qf h.file.l++(qf h.machine.l++(qf h.boot.l++(qf h.seq.l++(qP .u64 h.n++[.int .u32 h.ta,.int .u32 h.ti,.int .u64 h.te]))))),
 fun h=>by simp[h.hn],fun h=>xE⟩
theorem HdP.cells(h:HdP):Enc.cells h=.int .u32 h.compat:: .int .u32 h.incompat:: .int .i64 h.state::(qf h.file.l++(qf h.machine.l++(qf h.boot.l++(qf h.seq.l++(qP .u64 h.n++[.int .u32 h.ta,.int .u32 h.ti,.int .u64 h.te]))))):=rfl
@[simp] theorem HdP.size:Enc.size HdP=91:=rfl
@[simp] theorem HdP.cl (a:HdP):(Enc.cells a).length=91:=Enc.len a
@[simp] theorem HdP.ct (a:HdP) (r:List D):(Enc.cells a++r).take 91=Enc.cells a:=qcx rfl a r
@[simp] theorem HdP.ct' (a:HdP):(Enc.cells a).take 91=Enc.cells a:=qcw rfl a
@[simp] theorem HdP.cd (a:HdP) (r:List D):(Enc.cells a++r).drop 91=r:=qcy rfl a r
@[simp] theorem HdP.el (l:List HdP):(qt l).length=l.length*91:=Ks rfl l
@[simp] theorem HdP.ed (l:List HdP) (i:Nat):(qt l).drop (i*91)=qt (l.drop i):=qav rfl l i
@[simp] theorem HdP.et (l:List HdP) (i:Nat):(qt l).take (i*91)=qt (l.take i):=qau rfl l i
@[simp high] theorem HdP.ea {l:List HdP} {i:Nat} (h:i<l.length):(qt l).drop (i*91)=Enc.cells l[i]++qt (l.drop (i+1)):=XS rfl h
@[simp high] theorem HdP.es (m:HdP) {l:List HdP} {j:Nat} (h:j<l.length):zT (qt l) (j*91) (Enc.cells m)=qt (l.set j m):=XR rfl m l h
def HdP.g(h:HdP)(i:Nat):Nat:=h.n.getD i 0
theorem HdP.d1(h:HdP):(Enc.cells h).drop 1=.int .u32 h.incompat::(Enc.cells h).drop 2:=xq
theorem HdP.d2(h:HdP):(Enc.cells h).drop 2=.int .i64 h.state::(Enc.cells h).drop 3:=xq
theorem HdP.d3(h:HdP):((Enc.cells h).drop 3).take 16=qf h.file.l:=xq
theorem HdP.d51(h:HdP):((Enc.cells h).drop 51).take 16=qf h.seq.l:=by simp[HdP.cells,jd,List.drop_of_length_le]
theorem HdP.dn(h:HdP){i:Nat}(hi:i<21):(Enc.cells h).drop (67+i)=.int .u64 (h.g i:Nat)::(Enc.cells h).drop (68+i):=by
 have c:i<h.n.length:=by rw[h.hn];exact hi
 have key:∀j,j<=21->(Enc.cells h).drop (67+j)=(qP .u64 h.n++([.int .u32 h.ta,.int .u32 h.ti,.int .u64 h.te]:List D)).drop j:=by
  intro j d
  have b:∀(k:Nat)(l r:List D)(a:Nat),l.length=a->(l++r).drop (a+k)=r.drop k:=by
   intro k l r a c;rw[<-kz,VD c]
  rw[HdP.cells,show 67+j=(16+(16+(16+(16+j))))+1+1+1 from wC,List.drop_succ_cons,List.drop_succ_cons,List.drop_succ_cons,b _ _ _ 16 wE,b _ _ _ 16 wE,b _ _ _ 16 wE,b _ _ _ 16 wE]
 rw[key i wC,show 68+i=67+(i+1) from wC,key (i+1) wC,List.drop_append_of_le_length wG,List.drop_append_of_le_length (by simp[h.hn];omega),qes c,Qc];congr 2
 .simp[HdP.g,c]
 .unfold qP;rw[List.map_drop]
def HdP.siz(h:HdP):Nat:=h.g 0
def HdP.arena(h:HdP):Nat:=h.g 1
def HdP.ents(h:HdP):Nat:=h.g 8
def HdP.tseq(h:HdP):Nat:=h.g 9
def HdP.arr(h:HdP):Nat:=h.g 11
def Ji(b:List UInt8)(a:Nat):Nat:=leN ((b.drop a).take 4)
theorem qmt(b:List UInt8)(a:Nat):Ji b a<4294967296:=by
 have h:=qfl ((b.drop a).take 4);have c:((b.drop a).take 4).length<=4:=wG
 exact vd h (zJ (qfI wH c) wH)
def qey(b:List UInt8)(a:Nat):ID:=if h:((b.drop a).take 16).length=16 then⟨(b.drop a).take 16,h⟩ else ID.zero
theorem qgy{b:List UInt8}{a:Nat}(h:a+16<=b.length):(qey b a).l=(b.drop a).take 16:=by
 have:((b.drop a).take 16).length=16:=wG
 simp[qey,this]
def qG(b:List UInt8):HdP where
 compat:=Ji b 8
 incompat:=Ji b 12
 state:=(b.getD 16 0).toNat
 file:=qey b 24
 machine:=qey b 40
 boot:=qey b 56
 seq:=qey b 72
 n:=(List.range 21).map fun i=>qT b (88+8*i)
 hn:=wE
 ta:=Ji b 256
 ti:=Ji b 260
 te:=qT b 264
theorem qtz(b:List UInt8){i:Nat}(h:i<21):(qG b).g i=qT b (88+8*i):=by
 simp[qG,HdP.g,h]
theorem qfu(b:List UInt8)(i:Nat):(qG b).g i<18446744073709551616:=by
 by_cases h:i<21
 .rw[qtz b h];exact qeQ _ _
 .have:(qG b).g i=0:=by
   simp only[HdP.g,jy];rw[List.getElem?_eq_none (by rw[(qG b).hn];omega)];rfl
  omega
def HdP.endC(h:HdP):Bool:=decide (h.g 0+h.g 1<18446744073709551616)
def HdP.endN(h:HdP):Nat:=if h.g 0+h.g 1<18446744073709551616 then h.g 0+h.g 1 else 0
def qb4(b a c d:Nat):Nat:=
 if a % 8≠0 then 3
 else if c=0\/c % 16≠0 then 5
 else if a<b\/a-b<16\/d<a\/d-a<c then 2
 else 0
def signL:List UInt8:=[76,80,75,83,72,72,82,72]
def hdC(h:HdP)(a:Nat):Nat:=
 if qeF .u32 h.incompat 4≠0 then 7
 else if 2<h.state then 8
 else if h.g 0<272\/h.g 0 % 8≠0\/h.g 1 % 8≠0 then 5
 else if h.endC=false\/a<h.endN then 2
 else if qb4 (h.g 0) (h.g 2) (h.g 3) h.endN≠0 then qb4 (h.g 0) (h.g 2) (h.g 3) h.endN
 else qb4 (h.g 0) (h.g 4) (h.g 5) h.endN
def vf(b:List UInt8):Nat:=
 if b.length<272 then 22
 else if b.take 8≠signL then 6
 else hdC (qG b) b.length
end Go.Ev
namespace Go.Ev.S
open Go Go.Proofs Go.Ev
structure Sq where
 id:ID
 v:D
 t:Nat
def Sq.c(x:Sq):List D:=VN x.id.l x.v x.t
def vc(l:List Sq):List D:=l.flatMap Sq.c
@[simp] theorem Sq.len (x:Sq):x.c.length=18:=by simp[Sq.c,VN]
theorem Kt:∀l:List Sq,(vc l).length=18*l.length
 |[]=>rfl
 |x::l=>by
  have:=Kt l;simp only[vc,List.flatMap_cons,zo,Sq.len,jJ] at *;omega
theorem qls(l m:List Sq):vc (l++m)=vc l++vc m:=by simp[vc]
theorem quK:∀(l:List Sq)(j:Nat),(vc l).drop (j*18)=vc (l.drop j)
 |l,0=>by simp
 |[],j+1=>by simp[vc]
 |x::l,j+1=>by
  have a:=quK l j;rw[List.drop_succ_cons,<-a,show(j+1)*18=18+j*18 from wC,<-kz];congr 1;simp only[vc,List.flatMap_cons];rw[List.drop_append_of_le_length wE,List.drop_of_length_le wE,QW]
theorem qlp{l:List Sq}{j:Nat}{x:Sq}(b:l[j]?=some x):((vc l).drop (j*18)).take 18=x.c:=by
 obtain⟨a,rfl⟩:=List.getElem?_eq_some_iff.1 b;rw[quK,jo a];simp only[vc,List.flatMap_cons];rw[List.take_append_of_le_length wE,qH wE]
theorem qyS[MaxL][TxtC]{H:qe}{q:Nat}{h:HdP}(n:qd H q=some (Enc.cells h))(x:Sq)(hx:closed H.length x.v=true):∃T,call cx 71 [.agg x.c,.optr q (Enc.cells h).length 0] H=some (.bool (x.id==h.seq),T)/\Ext [] H T:=by
 obtain⟨k,e⟩:=ql (qr H x.c);have f:=zL e;have i:=js e;have g:=f.get n wE;have d:=h.d51;have p:67<=(Enc.cells h).length:=by simp[HdP.cells,h.hn]
 have a:List.take 16 x.c=qf x.id.l:=by simp[Sq.c,VN]
 have j:x.c.all (closed H.length)=true:=by
  simp only[Sq.c,VN,List.all_append,qlD,Va,List.all_nil,hx];rfl
 have b:=eq_true (List.all_eq_true.1 j);have o:=Sq.len x;have m:16<=(Enc.cells h).length-51:=wC
 refine⟨k,j6 Tryz.func71 rfl ⟨rfl,rfl⟩ ?_,f⟩;generalize Enc.cells h=C at *;generalize x.c=B at *;simp[-qd,-qr,Tryz.f71,e,i,g,b,o,a,d,m]
def qwf(H:qe)(l:List Sq)(id:ID)(q:D×qe):Prop:=Ext [] H q.2/\((q.1=.int .i64 (-1)/\∀x,x∈l->x.id≠id)\/∃(j:Nat)(x:Sq),q.1=.int .i64 (j:Nat)/\l[j]?=some x/\x.id=id/\∀i y,l[i]?=some y->i<j->y.id≠id)
theorem q3m[MaxL][TxtC]{H:qe}{v:D}{l:List Sq}{L:List Nat}(P:RowA H 18 v (vc l) L)(M:∀x,x∈l->closed H.length x.v=true)(W:l.length<1000000){q:Nat}{h:HdP}(R:qd H q=some (Enc.cells h)):
  ∃r,call cx 70 [v,.fn 71 [.optr q (Enc.cells h).length 0]] H=some r/\qwf H l h.seq r:=by
 refine vx (X:=cx) (f:=70) (qwf H l h.seq) Tryz.func70 rfl ⟨rfl,rfl⟩ ?_;obtain⟨n,K⟩:∃n,n=(Enc.cells h).length:=⟨_,rfl⟩;rw[<-K];rcases P with⟨rfl,N,rfl⟩|⟨p,k,rfl,Z,Q,rfl⟩
 .have s:l=[]:=by
   have:=Kt l;rw[N] at this;exact ky (by simp at this;omega)
  subst s;simp[-qd,Tryz.f70];refine Vb ?_;simp[-qd];exact⟨Ext.refl _ _,.inl ⟨rfl,wE⟩⟩
 have F:=Kt l;have O:k=l.length:=wC
 subst O;simp[-qd,Tryz.f70];refine Run.loopThen (fun(i:Nat) e T=>i<=l.length/\qi e 0=some (.osl p (vc l).length 0 l.length 18)/\qi e 1=some (.fn 71 [.optr q n 0])/\qi e 7=some (.int .i64 l.length)/\qi e 8=some (.int .i64 i)/\Ext [] H T/\∀j y,l[j]?=some y->j<i->y.id≠h.seq) (fun i=>l.length-i) 0 ?_ ?_
 .exact⟨vp _,wE,wE,wE,wE,Ext.refl _ _,fun _ _ _ h=>absurd h (Nat.not_lt_zero _)⟩
 rintro i e T ⟨U,E,z,o,A,hx,u⟩;by_cases w:i<l.length
 case neg=>
  have m:=zw w;simp[-qd,E,z,o,A,m]
  exact⟨hx,.inl ⟨rfl,fun x B=>by
   obtain⟨j,b⟩:=List.mem_iff_getElem?.1 B;exact u j x b (by have:=(List.getElem?_eq_some_iff.1 b).1;omega)⟩⟩
 have m:=zq w;obtain⟨x,a⟩:∃x,l[i]?=some x:=⟨_,qM w⟩;have I:=qlp a;have c:=hx.get Q wE;obtain⟨V,d,J⟩:=qyS (hx.get R wE) x (jr hx.len _ (M x (j7 a)));rw[<-K] at d;have S:=qz ((i:Int)+1) ((i+1:Nat):Int);have Y:i*18+18<=18*l.length:=wC
 have G:18<=18*l.length-i*18:=wC
 by_cases g:x.id=h.seq
 .rw[show(x.id==h.seq)=true by rw[g];exact beq_self_eq_true _] at d;simp[-qd,E,z,o,A,m,c,F,I,G,d];exact⟨hx.trans J (NewL.refl _ _),.inr ⟨i,x,rfl,a,g,fun j y b C=>u j y b C⟩⟩
 .rw[show(x.id==h.seq)=false from xD] at d;simp[-qd,E,z,o,A,m,c,F,I,G,d,S];refine⟨i+1,wC,wC,wC,hx.trans J (NewL.refl _ _),fun j y b C=>?_⟩;rcases Nat.lt_or_eq_of_le (Nat.le_of_lt_succ C) with t|t
  .exact u j y b t
  .subst t;rw[a] at b;cases b;exact g
def qcF(n:Int):Bool:=n==1||n==2||n==4||n==8
theorem q0X[MaxL][TxtC](n:Int):call cx 257 [.int .i64 n] []=some (.bool (qcF n),[]):=by
 refine qC Tryz.func257 rfl ⟨rfl,rfl⟩ ?_;unfold qcF;by_cases b:n=1
 .subst b;simp[Tryz.f257]
 .by_cases a:n=2
  .subst a;simp[Tryz.f257]
  .by_cases c:n=4
   .subst c;simp[Tryz.f257]
   .simp[Tryz.f257,b,a,c]
theorem qwR{n:Int}(h:qcF n=true):1<=n/\n<=8:=by
 simp[qcF] at h;omega
def YS(l:List UInt8)(at_ n:Int):Option Nat:=
 if qcF n=true/\0<=at_/\at_+n<=l.length then some (leN ((l.drop at_.toNat).take n.toNat)) else none
def qgg(o:Option Nat):D:=.tup [.int .u64 ((o.getD 0:Nat):Int),.bool o.isSome]
theorem bits64:2^IntKind.u64.bits=18446744073709551616:=by simp only[IntKind.bits]
theorem q1a(x y:Nat)(c:y<256)(hx:x*256+y<18446744073709551616):
  Vs .u64 (IntKind.u64.wrap ((x:Int)*256)) (y:Int)=((x*256+y:Nat):Int):=by
 have b:x*256<2^IntKind.u64.bits:=Nat.lt_of_lt_of_eq (Nat.lt_of_le_of_lt (Nat.le_add_right _ _) hx) bits64.symm;have a:y<2^IntKind.u64.bits:=Nat.lt_of_lt_of_eq (vd c wH) bits64.symm;have d:IntKind.u64.wrap ((x:Int)*256)=((x*256:Nat):Int):=by clear b a;rw[qcC]<;>omega
 rw[d,qjU rfl b a,qoh x y c]
theorem qk1[MaxL][TxtC](s:Sl UInt8)(at_ n:Int)(I:-9223372036854775808<=at_/\at_<9223372036854775808)(K:s.l.length<4611686018427387904):
  call cx 221 [(.vsl s.nil (qf s.l) s.l.length),.int .i64 at_,.int .i64 n] []=some (qgg (YS s.l at_ n),[]):=by
 have d:=q0X n;refine qC Tryz.func221 rfl ⟨rfl,rfl⟩ ?_;cases b:qcF n with
 |false=>
  rw[b] at d;simp[Tryz.f221,d,YS,b,qgg]
 |true=>
  rw[b] at d;have L:=qwR b;by_cases c:at_<0
  .have g:¬0<=at_:=by omega
   simp[Tryz.f221,d,YS,b,qgg,c,g]
  .have g:0<=at_:=by omega
   have v:=qz ((s.l.length:Int)-n) ((s.l.length:Int)-n);by_cases f:at_+n<=s.l.length
   .have q:¬((s.l.length:Int)-n<at_):=wC;obtain⟨a,rfl⟩:∃a:Nat,at_=a:=⟨at_.toNat,wC⟩
    obtain⟨k,rfl⟩:∃k:Nat,n=k:=⟨n.toNat,wC⟩;have E:=qz ((k:Int)-1) ((k:Int)-1);have p:s.nil=false:=Sl.nn (i:=a) wC;simp[Tryz.f221,d,YS,b,qgg,c,g,v,f,q,E,p];refine Run.loopThen (fun(i:Nat) e H=>i<=k/\H=[]/\qi e 0=some (.vsl s.nil (qf s.l) s.l.length)/\qi e 1=some (.int .i64 a)/\qi e 8=some (.int .u64 (leN ((s.l.drop (a+i)).take (k-i)):Nat))/\qi e 9=some (.int .i64 ((i:Int)-1))) (fun i=>i) k (by simp[leN,p]) ?_;rintro i e H ⟨hi,rfl,c,w,u,h⟩;cases i with
    |zero=>simp[c,w,u,h]
    |succ j=>
     have B:(0:Int)<=(j:Int):=wC;have m:=qz ((a:Int)+(j:Int)) ((a+j:Nat):Int);have x:=qz ((j:Int)-1) ((j:Int)-1);have t:a+j<s.l.length:=wC;have J:((a+j:Nat):Int)<(s.l.length:Int):=wC;have A:((j+1:Nat):Int)-1=(j:Int):=wC;rw[A] at h
     have G:(s.l.drop (a+j)).take (k-j)=s.l[a+j]::(s.l.drop (a+(j+1))).take (k-(j+1)):=by
      rw[jo t,show k-j=(k-(j+1))+1 from wC,List.take_succ_cons,qiQ]
     have z:leN ((s.l.drop (a+(j+1))).take (k-(j+1)))<256^7:=by
      refine vd (qfl _) (qfI wH ?_);rw[jc];omega
     have o:=q1a (leN ((s.l.drop (a+(j+1))).take (k-(j+1)))) s.l[a+j].toNat s.l[a+j].toNat_lt (by have:=s.l[a+j].toNat_lt;omega);have r:IntKind.u64.wrap (s.l[a+j].toNat:Int)=(s.l[a+j].toNat:Int):=(by rw[qcC];have:=s.l[a+j].toNat_lt;omega);have y:(0:Int)<=(a:Int)+(j:Int):=wC;have C:(a:Int)+(j:Int)<(s.l.length:Int):=wC;have F:((a:Int)+(j:Int)).toNat=a+j:=wC;simp[c,w,u,h,B,m,x,r,p,y,C,F,ke t,IntKind.bits];rw[o];exact⟨j,wC,wC,by rw[G,leN,Nat.mul_comm,Nat.add_comm],rfl⟩
   .have q:(s.l.length:Int)-n<at_:=by omega
    simp[Tryz.f221,d,YS,b,qgg,c,g,v,f,q]
theorem qbH[MaxL][TxtC](s:Sl UInt8)(a:Nat)(h:a+8<=s.l.length)(c:s.l.length<4611686018427387904){x:Int}(hx:x=a):call cx 221 [(.vsl s.nil (qf s.l) s.l.length),.int .i64 x,.int .i64 8] []=some (.tup [.int .u64 (qT s.l a:Nat),.bool true],[]):=by
 subst hx;have:=qk1 s a 8 wC c;rw[this]
 have b:YS s.l a 8=some (qT s.l a):=by
  unfold YS qT;simp[qcF];omega
 rw[b];rfl
theorem q1b[MaxL][TxtC](s:Sl UInt8)(a:Nat)(h:a+4<=s.l.length)(c:s.l.length<4611686018427387904){x:Int}(hx:x=a):call cx 221 [(.vsl s.nil (qf s.l) s.l.length),.int .i64 x,.int .i64 4] []=some (.tup [.int .u64 (Ji s.l a:Nat),.bool true],[]):=by
 subst hx;have:=qk1 s a 4 wC c;rw[this]
 have b:YS s.l a 4=some (Ji s.l a):=by
  unfold YS Ji;simp[qcF];omega
 rw[b];rfl
def JT(b:List UInt8)(a:Nat):D:=if kU b a=0 then .agg [.int .i64 (qar b a:Nat),.int .i64 0,.int .u64 (ZZ b a:Nat)] else .agg [.int .i64 0,.int .i64 0,.int .u64 0]
theorem qos[MaxL][TxtC](s:Sl UInt8)(W:s.l.length<=1000000)(a:Nat)(Z:a<18446744073709551616):call cx 274 [(.vsl s.nil (qf s.l) s.l.length),.int .u64 a] []=some (.tup [JT s.l a,.int .i64 (kU s.l a)],[]):=by
 refine qC Tryz.func274 rfl ⟨rfl,rfl⟩ ?_;have h:=zf (s.l.length:Int) (s.l.length:Int);have O:(a:Int).tmod 8=((a % 8:Nat):Int):=rfl;by_cases E:a % 8≠0
 .have b:kU s.l a=3:=by unfold kU;rw[if_pos E]
  have f:((a:Int).tmod 8 !=0)=true:=by rw[O];simp only[bne_iff_ne,ne_eq];omega
  simp[Tryz.f274,JT,b,h,f]
 have f:((a:Int).tmod 8 !=0)=false:=by rw[O];simp only[bne_eq_false_iff_eq];omega
 by_cases N:s.l.length<a\/s.l.length-a<16
 .have b:kU s.l a=2:=by unfold kU;rw[if_neg E,if_pos N]
  by_cases H:s.l.length<a
  .have e:=zq H;simp[Tryz.f274,JT,b,h,f,e]
  .have e:=zw H;have j:=zf ((s.l.length:Int)-(a:Int)) ((s.l.length:Int)-(a:Int));have k:(s.l.length:Int)-(a:Int)<16:=wC;simp[Tryz.f274,JT,b,h,f,e,j,k]
 have e:¬(s.l.length:Int)<(a:Int):=wC
 have j:=zf ((s.l.length:Int)-(a:Int)) ((s.l.length:Int)-(a:Int));have k:¬(s.l.length:Int)-(a:Int)<16:=wC
 have C:a<s.l.length:=wC
 have z:a+1<s.l.length:=wC
 have o:s.nil=false:=Sl.nn C;have i:=qbH s (a+8) wC wC (x:=(a:Int)+8) wC;have r:(a:Int)<(s.l.length:Int):=wC
 have q:(a:Int)+1<(s.l.length:Int):=wC
 have v:=zf ((a:Int)+1) ((a:Int)+1);have y:=qz (a:Int) (a:Int);have w3:=qz ((a:Int)+8) ((a:Int)+8);have t:=ke C;have m:=ke z;have X:=s.l[a].toNat_lt;have V:=s.l[a+1].toNat_lt;have G:(s.l.getD a 0).toNat=s.l[a].toNat:=by simp[C]
 have P:(s.l.getD (a+1) 0).toNat=s.l[a+1].toNat:=by simp[z]
 have n2:((a:Int)+1).toNat=a+1:=wC
 have T:=qeQ s.l (a+8)
 have b:kU s.l a=if s.l[a].toNat<1\/7<s.l[a].toNat then 4 else if s.l[a+1].toNat≠0 then 7 else if qT s.l (a+8)<16 then 5 else if s.l.length-a<qT s.l (a+8) then 2 else 0:=by
  unfold kU;rw[if_neg E,if_neg N,G,P]
 have U:qar s.l a=s.l[a].toNat:=G;obtain⟨S,L⟩:=ql (qT s.l (a+8));have B:ZZ s.l a=S:=L;rw[L] at b i T;generalize s.l[a]=K at *;generalize s.l[a+1]=F at *;have u:=qz (K.toNat:Int) (K.toNat:Int);have A:=qz (F.toNat:Int) (F.toNat:Int);have w:(0:Int)<=(a:Int)+1:=wC
 rw[o] at i;have Y:(0:Nat)<4:=wC
 by_cases R:K.toNat<1
 .rw[if_pos (.inl R)] at b;have c:(K.toNat:Int)<1:=by omega
  simp[Tryz.f274,JT,b,h,f,e,j,k,o,r,q,w,v,y,w3,t,m,n2,u,A,i,c]
 have c:¬(K.toNat:Int)<1:=wC
 by_cases Q:7<K.toNat
 .rw[if_pos (.inr Q)] at b;have d:(7:Int)<(K.toNat:Int):=by omega
  simp[Tryz.f274,JT,b,h,f,e,j,k,o,r,q,w,v,y,w3,t,m,n2,u,A,i,c,d]
 have d:¬(7:Int)<(K.toNat:Int):=wC
 rw[if_neg wC] at b;by_cases M:F.toNat≠0
 .rw[if_pos M] at b;have n:((F.toNat:Int) !=0)=true:=VH;simp[Tryz.f274,JT,b,h,f,e,j,k,o,r,q,w,v,y,w3,t,m,n2,u,A,i,c,d,n]
 rw[if_neg M] at b;have n:F.toNat=0:=wC
 rw[n] at A m;by_cases I:S<16
 .rw[if_pos I] at b;have g:(S:Int)<16:=by omega
  simp[Tryz.f274,JT,b,h,f,e,j,k,o,r,q,w,v,y,w3,t,m,n2,u,i,c,d,g]
 have g:¬(S:Int)<16:=wC
 rw[if_neg I] at b;by_cases J:s.l.length-a<S
 .rw[if_pos J] at b;have p:(s.l.length:Int)-(a:Int)<(S:Int):=by omega
  simp[Tryz.f274,JT,b,h,f,e,j,k,o,r,q,w,v,y,w3,t,m,n2,u,i,c,d,g,p]
 .rw[if_neg J] at b;have p:¬(s.l.length:Int)-(a:Int)<(S:Int):=by omega
  simp[Tryz.f274,JT,b,h,f,e,j,k,o,r,q,w,v,y,w3,t,m,n2,u,i,c,d,g,p,U,B]
def ZG(b:List UInt8)(a kind c d:Nat):D:=if vX b a kind c d=0 then .vsl false (qf (qN b a)) (qN b a).length else .vsl true [] 0
theorem quP[MaxL][TxtC](s:Sl UInt8)(N:s.l.length<=1000000)(a:Nat)(T:a<18446744073709551616)(kind b c:Nat)(W:kind<=100)(G:b<=100)(X:1<=c/\c<=100):
  call cx 258 [(.vsl s.nil (qf s.l) s.l.length),.int .u64 a,.int .i64 kind,.int .i64 b,.int .i64 c] []=some (.tup [ZG s.l a kind b c,.int .i64 (vX s.l a kind b c)],[]):=by
 have f:=qos s N a T;refine qC Tryz.func258 rfl ⟨rfl,rfl⟩ ?_;have o:=qz (16+(b:Int)) (16+(b:Int));have n:=zf (16+(b:Int)) (16+(b:Int));by_cases j:kU s.l a≠0
 .have e:vX s.l a kind b c=kU s.l a:=by unfold vX;rw[if_pos j]
  have g:ZG s.l a kind b c=.vsl true [] 0:=by unfold ZG;rw[e,if_neg j]
  have q:JT s.l a=.agg [.int .i64 0,.int .i64 0,.int .u64 0]:=by unfold JT;rw[if_neg j]
  rw[q] at f;have h:(((kU s.l a:Nat):Int) !=0)=true:=VH;obtain⟨C,t⟩:=ql (kU s.l a);rw[t] at f e h;rw[g,e];simp[Tryz.f258,f,o,n,h]
 have h:kU s.l a=0:=wC
 obtain⟨U,V,I,O,R,H⟩:=qe3 h;have q:JT s.l a=.agg [.int .i64 (qar s.l a:Nat),.int .i64 0,.int .u64 (ZZ s.l a:Nat)]:=by unfold JT;rw[if_pos h]
 rw[q,h] at f;obtain⟨K,m⟩:=ql (qar s.l a);obtain⟨S,k⟩:=ql (ZZ s.l a);rw[m,k] at f;rw[m] at I O;rw[k] at R H;by_cases B:K=kind
 rotate_left
 .have e:vX s.l a kind b c=4:=by unfold vX;rw[if_neg j,m,if_pos B]
  have g:ZG s.l a kind b c=.vsl true [] 0:=yM
  have Q:((K:Int) !=(kind:Int))=true:=VH;rw[g,e];simp[Tryz.f258,f,o,n,Q]
 subst B;by_cases L:S<=16+b
 .have e:vX s.l a K b c=5:=by unfold vX;rw[if_neg j,m,if_neg wE,k,if_pos (.inl L)]
  have g:ZG s.l a K b c=.vsl true [] 0:=yM
  have p:(S:Int)<=16+(b:Int):=wC
  rw[g,e];simp[Tryz.f258,f,o,n,p]
 have p:¬(S:Int)<=16+(b:Int):=wC
 obtain⟨d,E⟩:∃d:Nat,S-(16+b)=d:=⟨_,rfl⟩;have w:IntKind.u64.wrap ((S:Int)-(16+(b:Int)))=(d:Int):=by rw[qcC];all_goals omega
 have x:=zf (c:Int) (c:Int);have y:¬c=0:=wC
 have z:(d:Int).tmod (c:Int)=((d % c:Nat):Int):=rfl;by_cases F:d % c≠0
 .have e:vX s.l a K b c=5:=by unfold vX;rw[if_neg j,m,if_neg wE,k,E,if_pos (.inr F)]
  have g:ZG s.l a K b c=.vsl true [] 0:=yM
  have r:((d:Int).tmod (c:Int) !=0)=true:=by rw[z];simp only[bne_iff_ne,ne_eq];omega
  rw[g,e];simp[Tryz.f258,f,o,n,p,w,x,y,r]
 .have e:vX s.l a K b c=0:=by unfold vX;rw[if_neg j,m,if_neg wE,k,E,if_neg wC]
  have g:ZG s.l a K b c=.vsl false (qf (qN s.l a)) (qN s.l a).length:=yM
  have r:((d:Int).tmod (c:Int) !=0)=false:=by rw[z];simp only[bne_eq_false_iff_eq];omega
  have M:=qfB h;have A:s.nil=false:=Sl.nn (i:=a) wC;have v:=zf ((a:Int)+16) ((a:Int)+16);have u:=zf ((a:Int)+(S:Int)) ((a:Int)+(S:Int));have J:(0:Int)<=(a:Int)+(S:Int)/\(a:Int)+(S:Int)<=(s.l.length:Int)/\(0:Int)<=(a:Int)+16/\(a:Int)+16<=(a:Int)+(S:Int):=wC
  have n1:((a:Int)+16).toNat=a+16:=wC
  have n2:((a:Int)+(S:Int)).toNat=a+S:=wC
  have n3:a+S-(a+16)=S-16:=wC
  have P:qN s.l a=(s.l.drop (a+16)).take (S-16):=by unfold qN;rw[k]
  rw[g,e,M,k];rw[A] at f;simp[Tryz.f258,f,o,n,p,w,x,y,r,A,v,u,J,n1,n2,n3,P];simp[qf,List.map_take,List.map_drop]
end Go.Ev.S
namespace Go.Ev
open Go Go.Proofs
def zg(l:List Nat):List D:=l.map fun x=>.int .u64 (x:Nat)
@[simp] theorem qaI (l:List Nat):(zg l).length=l.length:=by simp[zg]
theorem qkk(l:List Nat)(x:Nat):zg (l++[x])=zg l++[.int .u64 (x:Nat)]:=by simp[zg]
@[simp] theorem qo4:zg []=[]:=rfl
theorem q0s(x:Nat)(l:List Nat):zg (x::l)=.int .u64 (x:Nat)::zg l:=rfl
@[simp] theorem qlW (s:List Nat):(zg s).all idFree=true:=by simp[zg,idFree]
@[simp] theorem q6W (n:Nat) (s:List Nat):(zg s).all (closed n)=true:=by simp[zg,closed]
@[simp] theorem qvN (s:List Nat):(zg s).all vFree=true:=by simp[zg,vFree]
@[simp] theorem q3x (s:List Nat):idFree.idFreeL (zg s)=true:=by rw[Q0];exact qlW s
@[simp] theorem q7u (s:List Nat):vFree.vFreeL (zg s)=true:=by exact(qhb _).2 (List.all_eq_true.1 (qvN s))
@[simp] theorem qA4 (n:Nat) (s:List Nat):closed.closedL n (zg s)=true:=qax n _ (q3x s)
@[simp] theorem q7w {s:List Nat} {n:Nat} (h:s.length<=n):(zg s).take n=zg s:=qH wQ
@[simp] theorem qkj (s:List Nat):(∀x,x∈zg s->idFree x=true)=True:=eq_true (List.all_eq_true.1 (qlW s))
@[simp] theorem q9F (s:List Nat) (n:Nat):(∀x,x∈zg s->closed n x=true)=True:=eq_true (List.all_eq_true.1 (q6W n s))
@[simp] theorem q9E (s:List Nat):(∀x,x∈zg s->vFree x=true)=True:=eq_true (List.all_eq_true.1 (qvN s))
def qiV(d:D)(H:qe)(l:List D):Prop:=(d=.vsl true [] 0/\l=[]/\H=[])\/(d=.osl 0 l.length 0 l.length 1/\H=[some l]/\l≠[])
theorem qov{l:List UInt8}{k:Nat}(h:k<l.length/8):(jU l).take (k+1)=(jU l).take k++[qT l (8*k)]:=by
 rw[List.take_add_one,q0f h];rfl
end Go.Ev
namespace Go.Ev.S
open Go Go.Proofs Go.Ev
def qeq(l:List UInt8):D:=.vsl (decide (l.length=0)) (zg (jU l)) (jU l).length
theorem quF[MaxL][TxtC](s:Sl UInt8)(B:s.l.length<=1000000)(C:s.l.length % 8=0):call cx 259 [(.vsl s.nil (qf s.l) s.l.length)] []=some (qeq s.l,[]):=by
 refine qC Tryz.func259 rfl ⟨rfl,rfl⟩ ?_;simp[Tryz.f259,-qek];refine Run.loopThen (fun(k:Nat) e H=>8*k<=s.l.length/\(∃d,qi e 3=some d/\qiV d H (zg ((jU s.l).take k)))/\qi e 0=some (.vsl s.nil (qf s.l) s.l.length)/\qi e 4=some (.int .i64 (8*(k:Int)))) (fun k=>s.l.length-8*k) 0 (by simp[qiV,zg]) ?_;rintro k e H ⟨A,⟨d,n,a⟩,j,m⟩;by_cases w:8*k<s.l.length
 .have f:8*(k:Int)<(s.l.length:Int):=by omega
  have t:=qz (8*(k:Int)+8) (8*((k+1:Nat):Int));have q:=qbH s (8*k) wC wC (x:=8*(k:Int)) wC;have b:=qkk ((jU s.l).take k) (qT s.l (8*k));rw[<-qov wC] at b;have E:(zg ((jU s.l).take k)).length<=1000000:=wG
  have g:s.nil=false:=Sl.nn (i:=8*k) w;rw[g] at q j;have y:=qkj ((jU s.l).take k);generalize zg ((jU s.l).take k)=l at *;generalize qT s.l (8*k)=c at *;have u:(l.length+1)*8<=140737488355328:=wC
  have z:l.length+1<=140737488355328:=wC
  rcases a with⟨rfl,rfl,rfl⟩|⟨rfl,rfl,r⟩
  .simp[j,n,m,f,t,q,qF];exact⟨k+1,wC,wC,.inr (by simp[b]),g,wC⟩
  .simp[j,n,m,f,t,q,qF,u,z,y];exact⟨k+1,wC,wC,.inr (by simp[b]),g,wC⟩
 .have f:¬8*(k:Int)<(s.l.length:Int):=by omega
  have v:(jU s.l).take k=jU s.l:=qH wG;rw[v] at a;rcases a with⟨rfl,g,rfl⟩|⟨rfl,rfl,r⟩
  .have p:s.l.length=0:=by
    have:=congrArg List.length g;simp at this;omega
   have o:s.l=[]:=List.length_eq_zero_iff.1 p;have hD:qeq s.l=.vsl true [] 0:=(by simp[qeq,o,jU]);rw[hD];simp[j,n,m,f]
  .have p:¬s.l=[]:=fun h=>r (by rw[h];rfl);simp[j,n,m,f,qeq,p]
def qc0(b:List UInt8)(a:Nat):D:=if Xq b a=0 then .agg [.int .u64 ((kp b a).headD 0:Nat),.vsl false (zg (kp b a).tail) (kp b a).tail.length] else .agg [.int .u64 0,.vsl true [] 0]
theorem qyO[MaxL][TxtC](s:Sl UInt8)(j:s.l.length<=1000000)(a:Nat)(o:a<18446744073709551616):call cx 226 [(.vsl s.nil (qf s.l) s.l.length),.int .u64 a] []=some (.tup [qc0 s.l a,.int .i64 (Xq s.l a)],[]):=by
 have c:call cx 258 [(.vsl s.nil (qf s.l) s.l.length),.int .u64 a,.int .i64 6,.int .i64 8,.int .i64 8] []=some (.tup [ZG s.l a 6 8 8,.int .i64 (vX s.l a 6 8 8)],[]):=quP s j a o 6 8 8 wC wC wC;refine qC Tryz.func226 rfl ⟨rfl,rfl⟩ ?_;have d:vX s.l a 6 8 8=Xq s.l a:=rfl;by_cases i:Xq s.l a≠0
 .have b:(((Xq s.l a:Nat):Int) !=0)=true:=VH;have g:ZG s.l a 6 8 8=.vsl true [] 0:=by unfold ZG;rw[d,if_neg i]
  have e2:qc0 s.l a=.agg [.int .u64 0,.vsl true [] 0]:=by unfold qc0;rw[if_neg i]
  rw[g,d] at c;rw[e2];obtain⟨C,m⟩:=ql (Xq s.l a);rw[m] at c b⊢;simp[Tryz.f226,c,b]
 have b:Xq s.l a=0:=wC
 have g:ZG s.l a 6 8 8=.vsl false (qf (qN s.l a)) (qN s.l a).length:=by unfold ZG;rw[d,if_pos b]
 have e2:qc0 s.l a=.agg [.int .u64 ((kp s.l a).headD 0:Nat),.vsl false (zg (kp s.l a).tail) (kp s.l a).tail.length]:=by unfold qc0;rw[if_pos b]
 have h:kU s.l a=0:=by
  unfold Xq vX at b;split at b
  .omega
  .omega
 have r:¬(ZZ s.l a<=16+8\/(ZZ s.l a-(16+8)) % 8≠0):=by
  unfold Xq vX at b;rw[if_neg wC] at b;split at b
  .omega
  split at b
  .omega
  .assumption
 have q:=qfB h;have n:=qe3 h;have e:=quF (Sl.mk false (qN s.l a) wE) wJ wJ;simp only at e;have p:(jU (qN s.l a)).length≠0:=by rw[qcY];omega
 have hD:qeq (qN s.l a)=.vsl false (zg (kp s.l a)) (kp s.l a).length:=by
  unfold qeq;rw[decide_eq_false wC];rfl
 rw[hD] at e;have f:(kp s.l a).length≠0:=p;rw[e2,b];rw[g,d,b] at c;generalize kp s.l a=l at *;cases l with
 |nil=>simp at f
 |cons x l=>
  have k:(1:Int)<=(l.length:Int)+1:=wC
  simp[Tryz.f226,c,e,q0s,k]
end Go.Ev.S
